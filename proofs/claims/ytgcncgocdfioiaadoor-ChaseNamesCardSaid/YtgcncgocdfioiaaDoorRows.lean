/-
  NARROWER THAN 'FOR EVERY INPUT', by the rows' own cells (each row's printed sentence says how): ChaseTwo: laid · ChaseRounds: laid · ChaseCorner: laid · ChaseSafe: laid · ChaseRanks: laid · ChaseMoves: laid · ChaseCorners: laid · ChaseChecks: laid · ChaseNames: laid · ChaseEither: laid · ChaseApart: laid · ChaseOne: laid.
  DERIVED. THE GIVEN ROWS OF THIS SEAT. 12 by the template 'for every input the law returns true; each argument reads behind the call as it read before'; 0 by the template 'total and deterministic' (their statements: YtgcncgocdfioiaaDoorTotals.lean).
  GIVEN WITH THE SEED: the statements are not yours to turn. If you find one false, say at which input.
  Laid BY PROGRAM, IN A SANDBOX (cutbox-rows.mjs): the forced cells as the released guide's own fill.sh prints them over the translation 199ff16b6a5511b4… (all of the seat's roots in one cut). By AI agents, Wed Nov 11 2026. No macro, syntax, notation, axiom, sorry.
-/
import Derived.Test.YtgcncgocdfioiaaDoorChecked
import GoSem.Claim
import GoSem.ClaimJoined
import GoSem.ClaimMapViews
import Derived.JoinedTies
import Derived.KernelRfl
namespace Go.Proofs.YtgcncgocdfioiaaDoor
/- THE CELL 'sum', in the pinned program and in every row, IS THE sha256 OF THE DUMP (.gsa) THAT YtgcncgocdfioiaaDoorProg.lean LOADS. Nothing in Lean hashes anything: it is a label: what it is worth is what the hold of that sum in a sandbox is worth. -/
noncomputable def Tryd.pinned : Pinned := { name := "ytgcncgocdfioiaadoor", sum := "199ff16b6a5511b4f129736cc8488e6e5f9e2d9b2901ccb313b8c4911154a3ea", checked := Tryd.checked }
namespace Rows
def none {H : Type} : Left H := { results := [], args := [] }

/- WHAT THE LISTED PACKAGE-LEVEL VARIABLES READ AS WHEN THE CALL BEGINS. Each datum BY PROGRAM (the guide's laid-datum.mjs) off the statement by which the dump's own 'gosem.cut.vars' lays the variable. In a bare row this is a premise. The card (YtgcncgocdfioiaaDoorCards.lean) ties it to the program's text. -/
def laid_math_bits_deBruijn32tab {H : Type} : DataW H := .agg [.lit (.int .u8 0), .lit (.int .u8 1), .lit (.int .u8 28), .lit (.int .u8 2), .lit (.int .u8 29), .lit (.int .u8 14), .lit (.int .u8 24), .lit (.int .u8 3), .lit (.int .u8 30), .lit (.int .u8 22), .lit (.int .u8 20), .lit (.int .u8 15), .lit (.int .u8 25), .lit (.int .u8 17), .lit (.int .u8 4), .lit (.int .u8 8), .lit (.int .u8 31), .lit (.int .u8 27), .lit (.int .u8 13), .lit (.int .u8 23), .lit (.int .u8 21), .lit (.int .u8 19), .lit (.int .u8 16), .lit (.int .u8 7), .lit (.int .u8 26), .lit (.int .u8 12), .lit (.int .u8 18), .lit (.int .u8 6), .lit (.int .u8 11), .lit (.int .u8 5), .lit (.int .u8 10), .lit (.int .u8 9)]
def laid_math_bits_deBruijn64tab {H : Type} : DataW H := .agg [.lit (.int .u8 0), .lit (.int .u8 1), .lit (.int .u8 56), .lit (.int .u8 2), .lit (.int .u8 57), .lit (.int .u8 49), .lit (.int .u8 28), .lit (.int .u8 3), .lit (.int .u8 61), .lit (.int .u8 58), .lit (.int .u8 42), .lit (.int .u8 50), .lit (.int .u8 38), .lit (.int .u8 29), .lit (.int .u8 17), .lit (.int .u8 4), .lit (.int .u8 62), .lit (.int .u8 47), .lit (.int .u8 59), .lit (.int .u8 36), .lit (.int .u8 45), .lit (.int .u8 43), .lit (.int .u8 51), .lit (.int .u8 22), .lit (.int .u8 53), .lit (.int .u8 39), .lit (.int .u8 33), .lit (.int .u8 30), .lit (.int .u8 24), .lit (.int .u8 18), .lit (.int .u8 12), .lit (.int .u8 5), .lit (.int .u8 63), .lit (.int .u8 55), .lit (.int .u8 48), .lit (.int .u8 27), .lit (.int .u8 60), .lit (.int .u8 41), .lit (.int .u8 37), .lit (.int .u8 16), .lit (.int .u8 46), .lit (.int .u8 35), .lit (.int .u8 44), .lit (.int .u8 21), .lit (.int .u8 52), .lit (.int .u8 32), .lit (.int .u8 23), .lit (.int .u8 11), .lit (.int .u8 54), .lit (.int .u8 26), .lit (.int .u8 40), .lit (.int .u8 15), .lit (.int .u8 34), .lit (.int .u8 20), .lit (.int .u8 31), .lit (.int .u8 10), .lit (.int .u8 25), .lit (.int .u8 14), .lit (.int .u8 19), .lit (.int .u8 9), .lit (.int .u8 13), .lit (.int .u8 8), .lit (.int .u8 7), .lit (.int .u8 6)]

/-- 'lampblacklaw01.ChaseTwo': WHATEVER THE INPUT: true; the input reads as it did. -/
def chaseTwoSpec : ChangeSpec := { name := "chaseTwo", fn := fun _ => fun
  | [d] => { results := [.lit (.bool true)], args := [d] }
  | _ => none }
def chaseTwoRow : OpenClaim := { program := "ytgcncgocdfioiaadoor", sum := "199ff16b6a5511b4f129736cc8488e6e5f9e2d9b2901ccb313b8c4911154a3ea", func := "lampblack/lampblacklaw01.ChaseTwo", spec := "chaseTwo", unfollowed := true, recurses := true, named := ["math/bits.deBruijn32tab", "math/bits.deBruijn64tab"], plainKeys := false, apart := false, laid := [("math/bits.deBruijn32tab", laid_math_bits_deBruijn32tab), ("math/bits.deBruijn64tab", laid_math_bits_deBruijn64tab)] }
def ChaseTwoSaid : Prop := chaseTwoRow.holds Tryd.pinned (OpenSpec.ofChange chaseTwoSpec)

/-- ITS FALSE NEIGHBOUR: 'it returns false'. Refute it at one input. -/
def chaseTwoWrong : ChangeSpec := { name := "chaseTwo", fn := fun _ => fun
  | [d] => { results := [.lit (.bool false)], args := [d] }
  | _ => none }
def ChaseTwoWrongFalsely : Prop := chaseTwoRow.holds Tryd.pinned (OpenSpec.ofChange chaseTwoWrong)

/-- 'lampblacklaw01.ChaseRounds': WHATEVER THE INPUT: true; the input reads as it did. -/
def chaseRoundsSpec : ChangeSpec := { name := "chaseRounds", fn := fun _ => fun
  | [d1, d2] => { results := [.lit (.bool true)], args := [d1, d2] }
  | _ => none }
def chaseRoundsRow : OpenClaim := { program := "ytgcncgocdfioiaadoor", sum := "199ff16b6a5511b4f129736cc8488e6e5f9e2d9b2901ccb313b8c4911154a3ea", func := "lampblack/lampblacklaw01.ChaseRounds", spec := "chaseRounds", unfollowed := true, recurses := true, named := ["math/bits.deBruijn32tab", "math/bits.deBruijn64tab"], plainKeys := false, apart := false, laid := [("math/bits.deBruijn32tab", laid_math_bits_deBruijn32tab), ("math/bits.deBruijn64tab", laid_math_bits_deBruijn64tab)] }
def ChaseRoundsSaid : Prop := chaseRoundsRow.holds Tryd.pinned (OpenSpec.ofChange chaseRoundsSpec)

/-- ITS FALSE NEIGHBOUR: 'it returns false'. Refute it at one input. -/
def chaseRoundsWrong : ChangeSpec := { name := "chaseRounds", fn := fun _ => fun
  | [d1, d2] => { results := [.lit (.bool false)], args := [d1, d2] }
  | _ => none }
def ChaseRoundsWrongFalsely : Prop := chaseRoundsRow.holds Tryd.pinned (OpenSpec.ofChange chaseRoundsWrong)

/-- 'lampblacklaw01.ChaseCorner': WHATEVER THE INPUT: true; the input reads as it did. -/
def chaseCornerSpec : ChangeSpec := { name := "chaseCorner", fn := fun _ => fun
  | [d1, d2] => { results := [.lit (.bool true)], args := [d1, d2] }
  | _ => none }
def chaseCornerRow : OpenClaim := { program := "ytgcncgocdfioiaadoor", sum := "199ff16b6a5511b4f129736cc8488e6e5f9e2d9b2901ccb313b8c4911154a3ea", func := "lampblack/lampblacklaw01.ChaseCorner", spec := "chaseCorner", unfollowed := true, recurses := true, named := ["math/bits.deBruijn32tab", "math/bits.deBruijn64tab"], plainKeys := false, apart := false, laid := [("math/bits.deBruijn32tab", laid_math_bits_deBruijn32tab), ("math/bits.deBruijn64tab", laid_math_bits_deBruijn64tab)] }
def ChaseCornerSaid : Prop := chaseCornerRow.holds Tryd.pinned (OpenSpec.ofChange chaseCornerSpec)

/-- ITS FALSE NEIGHBOUR: 'it returns false'. Refute it at one input. -/
def chaseCornerWrong : ChangeSpec := { name := "chaseCorner", fn := fun _ => fun
  | [d1, d2] => { results := [.lit (.bool false)], args := [d1, d2] }
  | _ => none }
def ChaseCornerWrongFalsely : Prop := chaseCornerRow.holds Tryd.pinned (OpenSpec.ofChange chaseCornerWrong)

/-- 'lampblacklaw01.ChaseSafe': WHATEVER THE INPUT: true; the input reads as it did. -/
def chaseSafeSpec : ChangeSpec := { name := "chaseSafe", fn := fun _ => fun
  | [d1, d2] => { results := [.lit (.bool true)], args := [d1, d2] }
  | _ => none }
def chaseSafeRow : OpenClaim := { program := "ytgcncgocdfioiaadoor", sum := "199ff16b6a5511b4f129736cc8488e6e5f9e2d9b2901ccb313b8c4911154a3ea", func := "lampblack/lampblacklaw01.ChaseSafe", spec := "chaseSafe", unfollowed := true, recurses := true, named := ["math/bits.deBruijn32tab", "math/bits.deBruijn64tab"], plainKeys := false, apart := false, laid := [("math/bits.deBruijn32tab", laid_math_bits_deBruijn32tab), ("math/bits.deBruijn64tab", laid_math_bits_deBruijn64tab)] }
def ChaseSafeSaid : Prop := chaseSafeRow.holds Tryd.pinned (OpenSpec.ofChange chaseSafeSpec)

/-- ITS FALSE NEIGHBOUR: 'it returns false'. Refute it at one input. -/
def chaseSafeWrong : ChangeSpec := { name := "chaseSafe", fn := fun _ => fun
  | [d1, d2] => { results := [.lit (.bool false)], args := [d1, d2] }
  | _ => none }
def ChaseSafeWrongFalsely : Prop := chaseSafeRow.holds Tryd.pinned (OpenSpec.ofChange chaseSafeWrong)

/-- 'lampblacklaw01.ChaseRanks': WHATEVER THE INPUT: true; the input reads as it did. -/
def chaseRanksSpec : ChangeSpec := { name := "chaseRanks", fn := fun _ => fun
  | [d1, d2, d3] => { results := [.lit (.bool true)], args := [d1, d2, d3] }
  | _ => none }
def chaseRanksRow : OpenClaim := { program := "ytgcncgocdfioiaadoor", sum := "199ff16b6a5511b4f129736cc8488e6e5f9e2d9b2901ccb313b8c4911154a3ea", func := "lampblack/lampblacklaw01.ChaseRanks", spec := "chaseRanks", unfollowed := true, recurses := true, named := ["math/bits.deBruijn32tab", "math/bits.deBruijn64tab"], plainKeys := false, apart := false, laid := [("math/bits.deBruijn32tab", laid_math_bits_deBruijn32tab), ("math/bits.deBruijn64tab", laid_math_bits_deBruijn64tab)] }
def ChaseRanksSaid : Prop := chaseRanksRow.holds Tryd.pinned (OpenSpec.ofChange chaseRanksSpec)

/-- ITS FALSE NEIGHBOUR: 'it returns false'. Refute it at one input. -/
def chaseRanksWrong : ChangeSpec := { name := "chaseRanks", fn := fun _ => fun
  | [d1, d2, d3] => { results := [.lit (.bool false)], args := [d1, d2, d3] }
  | _ => none }
def ChaseRanksWrongFalsely : Prop := chaseRanksRow.holds Tryd.pinned (OpenSpec.ofChange chaseRanksWrong)

/-- 'lampblacklaw01.ChaseMoves': WHATEVER THE INPUT: true; the input reads as it did. -/
def chaseMovesSpec : ChangeSpec := { name := "chaseMoves", fn := fun _ => fun
  | [d1, d2, d3, d4] => { results := [.lit (.bool true)], args := [d1, d2, d3, d4] }
  | _ => none }
def chaseMovesRow : OpenClaim := { program := "ytgcncgocdfioiaadoor", sum := "199ff16b6a5511b4f129736cc8488e6e5f9e2d9b2901ccb313b8c4911154a3ea", func := "lampblack/lampblacklaw01.ChaseMoves", spec := "chaseMoves", unfollowed := true, recurses := true, named := ["math/bits.deBruijn32tab", "math/bits.deBruijn64tab"], plainKeys := false, apart := false, laid := [("math/bits.deBruijn32tab", laid_math_bits_deBruijn32tab), ("math/bits.deBruijn64tab", laid_math_bits_deBruijn64tab)] }
def ChaseMovesSaid : Prop := chaseMovesRow.holds Tryd.pinned (OpenSpec.ofChange chaseMovesSpec)

/-- ITS FALSE NEIGHBOUR: 'it returns false'. Refute it at one input. -/
def chaseMovesWrong : ChangeSpec := { name := "chaseMoves", fn := fun _ => fun
  | [d1, d2, d3, d4] => { results := [.lit (.bool false)], args := [d1, d2, d3, d4] }
  | _ => none }
def ChaseMovesWrongFalsely : Prop := chaseMovesRow.holds Tryd.pinned (OpenSpec.ofChange chaseMovesWrong)

/-- 'lampblacklaw01.ChaseCorners': WHATEVER THE INPUT: true; the input reads as it did. -/
def chaseCornersSpec : ChangeSpec := { name := "chaseCorners", fn := fun _ => fun
  | [d1, d2] => { results := [.lit (.bool true)], args := [d1, d2] }
  | _ => none }
def chaseCornersRow : OpenClaim := { program := "ytgcncgocdfioiaadoor", sum := "199ff16b6a5511b4f129736cc8488e6e5f9e2d9b2901ccb313b8c4911154a3ea", func := "lampblack/lampblacklaw01.ChaseCorners", spec := "chaseCorners", unfollowed := true, recurses := true, named := ["math/bits.deBruijn32tab", "math/bits.deBruijn64tab"], plainKeys := false, apart := false, laid := [("math/bits.deBruijn32tab", laid_math_bits_deBruijn32tab), ("math/bits.deBruijn64tab", laid_math_bits_deBruijn64tab)] }
def ChaseCornersSaid : Prop := chaseCornersRow.holds Tryd.pinned (OpenSpec.ofChange chaseCornersSpec)

/-- ITS FALSE NEIGHBOUR: 'it returns false'. Refute it at one input. -/
def chaseCornersWrong : ChangeSpec := { name := "chaseCorners", fn := fun _ => fun
  | [d1, d2] => { results := [.lit (.bool false)], args := [d1, d2] }
  | _ => none }
def ChaseCornersWrongFalsely : Prop := chaseCornersRow.holds Tryd.pinned (OpenSpec.ofChange chaseCornersWrong)

/-- 'lampblacklaw01.ChaseChecks': WHATEVER THE INPUT: true; the input reads as it did. -/
def chaseChecksSpec : ChangeSpec := { name := "chaseChecks", fn := fun _ => fun
  | [d1, d2, d3] => { results := [.lit (.bool true)], args := [d1, d2, d3] }
  | _ => none }
def chaseChecksRow : OpenClaim := { program := "ytgcncgocdfioiaadoor", sum := "199ff16b6a5511b4f129736cc8488e6e5f9e2d9b2901ccb313b8c4911154a3ea", func := "lampblack/lampblacklaw01.ChaseChecks", spec := "chaseChecks", unfollowed := true, recurses := true, named := ["math/bits.deBruijn32tab", "math/bits.deBruijn64tab"], plainKeys := false, apart := false, laid := [("math/bits.deBruijn32tab", laid_math_bits_deBruijn32tab), ("math/bits.deBruijn64tab", laid_math_bits_deBruijn64tab)] }
def ChaseChecksSaid : Prop := chaseChecksRow.holds Tryd.pinned (OpenSpec.ofChange chaseChecksSpec)

/-- ITS FALSE NEIGHBOUR: 'it returns false'. Refute it at one input. -/
def chaseChecksWrong : ChangeSpec := { name := "chaseChecks", fn := fun _ => fun
  | [d1, d2, d3] => { results := [.lit (.bool false)], args := [d1, d2, d3] }
  | _ => none }
def ChaseChecksWrongFalsely : Prop := chaseChecksRow.holds Tryd.pinned (OpenSpec.ofChange chaseChecksWrong)

/-- 'lampblacklaw01.ChaseNames': WHATEVER THE INPUT: true; the input reads as it did. -/
def chaseNamesSpec : ChangeSpec := { name := "chaseNames", fn := fun _ => fun
  | [d1, d2] => { results := [.lit (.bool true)], args := [d1, d2] }
  | _ => none }
def chaseNamesRow : OpenClaim := { program := "ytgcncgocdfioiaadoor", sum := "199ff16b6a5511b4f129736cc8488e6e5f9e2d9b2901ccb313b8c4911154a3ea", func := "lampblack/lampblacklaw01.ChaseNames", spec := "chaseNames", unfollowed := true, recurses := true, named := ["math/bits.deBruijn32tab", "math/bits.deBruijn64tab"], plainKeys := false, apart := false, laid := [("math/bits.deBruijn32tab", laid_math_bits_deBruijn32tab), ("math/bits.deBruijn64tab", laid_math_bits_deBruijn64tab)] }
def ChaseNamesSaid : Prop := chaseNamesRow.holds Tryd.pinned (OpenSpec.ofChange chaseNamesSpec)

/-- ITS FALSE NEIGHBOUR: 'it returns false'. Refute it at one input. -/
def chaseNamesWrong : ChangeSpec := { name := "chaseNames", fn := fun _ => fun
  | [d1, d2] => { results := [.lit (.bool false)], args := [d1, d2] }
  | _ => none }
def ChaseNamesWrongFalsely : Prop := chaseNamesRow.holds Tryd.pinned (OpenSpec.ofChange chaseNamesWrong)

/-- 'lampblacklaw01.ChaseEither': WHATEVER THE INPUT: true; the input reads as it did. -/
def chaseEitherSpec : ChangeSpec := { name := "chaseEither", fn := fun _ => fun
  | [d1, d2, d3] => { results := [.lit (.bool true)], args := [d1, d2, d3] }
  | _ => none }
def chaseEitherRow : OpenClaim := { program := "ytgcncgocdfioiaadoor", sum := "199ff16b6a5511b4f129736cc8488e6e5f9e2d9b2901ccb313b8c4911154a3ea", func := "lampblack/lampblacklaw01.ChaseEither", spec := "chaseEither", unfollowed := true, recurses := true, named := ["math/bits.deBruijn32tab", "math/bits.deBruijn64tab"], plainKeys := false, apart := false, laid := [("math/bits.deBruijn32tab", laid_math_bits_deBruijn32tab), ("math/bits.deBruijn64tab", laid_math_bits_deBruijn64tab)] }
def ChaseEitherSaid : Prop := chaseEitherRow.holds Tryd.pinned (OpenSpec.ofChange chaseEitherSpec)

/-- ITS FALSE NEIGHBOUR: 'it returns false'. Refute it at one input. -/
def chaseEitherWrong : ChangeSpec := { name := "chaseEither", fn := fun _ => fun
  | [d1, d2, d3] => { results := [.lit (.bool false)], args := [d1, d2, d3] }
  | _ => none }
def ChaseEitherWrongFalsely : Prop := chaseEitherRow.holds Tryd.pinned (OpenSpec.ofChange chaseEitherWrong)

/-- 'lampblacklaw01.ChaseApart': WHATEVER THE INPUT: true; the input reads as it did. -/
def chaseApartSpec : ChangeSpec := { name := "chaseApart", fn := fun _ => fun
  | [d1, d2] => { results := [.lit (.bool true)], args := [d1, d2] }
  | _ => none }
def chaseApartRow : OpenClaim := { program := "ytgcncgocdfioiaadoor", sum := "199ff16b6a5511b4f129736cc8488e6e5f9e2d9b2901ccb313b8c4911154a3ea", func := "lampblack/lampblacklaw01.ChaseApart", spec := "chaseApart", unfollowed := true, recurses := true, named := ["math/bits.deBruijn32tab", "math/bits.deBruijn64tab"], plainKeys := false, apart := false, laid := [("math/bits.deBruijn32tab", laid_math_bits_deBruijn32tab), ("math/bits.deBruijn64tab", laid_math_bits_deBruijn64tab)] }
def ChaseApartSaid : Prop := chaseApartRow.holds Tryd.pinned (OpenSpec.ofChange chaseApartSpec)

/-- ITS FALSE NEIGHBOUR: 'it returns false'. Refute it at one input. -/
def chaseApartWrong : ChangeSpec := { name := "chaseApart", fn := fun _ => fun
  | [d1, d2] => { results := [.lit (.bool false)], args := [d1, d2] }
  | _ => none }
def ChaseApartWrongFalsely : Prop := chaseApartRow.holds Tryd.pinned (OpenSpec.ofChange chaseApartWrong)

/-- 'lampblacklaw01.ChaseOne': WHATEVER THE INPUT: true; the input reads as it did. -/
def chaseOneSpec : ChangeSpec := { name := "chaseOne", fn := fun _ => fun
  | [d] => { results := [.lit (.bool true)], args := [d] }
  | _ => none }
def chaseOneRow : OpenClaim := { program := "ytgcncgocdfioiaadoor", sum := "199ff16b6a5511b4f129736cc8488e6e5f9e2d9b2901ccb313b8c4911154a3ea", func := "lampblack/lampblacklaw01.ChaseOne", spec := "chaseOne", unfollowed := true, recurses := true, named := ["math/bits.deBruijn32tab", "math/bits.deBruijn64tab"], plainKeys := false, apart := false, laid := [("math/bits.deBruijn32tab", laid_math_bits_deBruijn32tab), ("math/bits.deBruijn64tab", laid_math_bits_deBruijn64tab)] }
def ChaseOneSaid : Prop := chaseOneRow.holds Tryd.pinned (OpenSpec.ofChange chaseOneSpec)

/-- ITS FALSE NEIGHBOUR: 'it returns false'. Refute it at one input. -/
def chaseOneWrong : ChangeSpec := { name := "chaseOne", fn := fun _ => fun
  | [d] => { results := [.lit (.bool false)], args := [d] }
  | _ => none }
def ChaseOneWrongFalsely : Prop := chaseOneRow.holds Tryd.pinned (OpenSpec.ofChange chaseOneWrong)

/- THE SECOND FORM. 'bulk': how many values and letters a reading holds, each counted each time it is reached (what is shared counts as often as it is met; a slice's spare places count too). A statement '..UptoSaid' is the law's where the arguments, and the package variables that the reading takes, are together of bulk at most 1048576: NARROWER than '..Said'. Prove '..Said' where nothing that the law and all that it calls make is longer than what came in: it says more and counts as full. Else prove '..UptoSaid'. A law counts once. -/
mutual
def uptoBulk {H : Type} : DataW H → Nat
  | .lit (.string bytes) => bytes.length + 1
  | .lit _ => 1
  | .nil => 1
  | .ptr d => uptoBulk d + 1
  | .slice elems spare => uptoBulkAll elems + uptoBulkAll spare + 1
  | .agg parts => uptoBulkAll parts + 1
  | .iface _ d => uptoBulk d + 1
  | .map entries => uptoBulkEntries entries + 1
  | .held _ => 1
def uptoBulkAll {H : Type} : List (DataW H) → Nat
  | [] => 0
  | d :: r => uptoBulk d + uptoBulkAll r
def uptoBulkEntries {H : Type} : List (Lit × DataW H) → Nat
  | [] => 0
  | x :: r => uptoBulkEntry x + uptoBulkEntries r
def uptoBulkEntry {H : Type} : Lit × DataW H → Nat
  | (.string bytes, d) => bytes.length + uptoBulk d + 1
  | (_, d) => uptoBulk d + 1
 end
def uptoSmall : (H : Type) → List (DataW H) → Bool := fun _ ds => decide (uptoBulkAll ds ≤ 1048576)
def OpenSpec.upto (s : _root_.Go.ChangeSpec) : _root_.Go.OpenSpec := { _root_.Go.OpenSpec.ofChange s with cond := some uptoSmall }

/-- 'lampblacklaw01.ChaseTwo', WHERE WHAT IT READS IS OF BULK AT MOST 1048576: true; the input reads as it did. -/
def chaseTwoUptoRow : OpenClaim := { program := "ytgcncgocdfioiaadoor", sum := "199ff16b6a5511b4f129736cc8488e6e5f9e2d9b2901ccb313b8c4911154a3ea", func := "lampblack/lampblacklaw01.ChaseTwo", spec := "chaseTwo", unfollowed := true, recurses := true, named := ["math/bits.deBruijn32tab", "math/bits.deBruijn64tab"], plainKeys := false, apart := false, laid := [("math/bits.deBruijn32tab", laid_math_bits_deBruijn32tab), ("math/bits.deBruijn64tab", laid_math_bits_deBruijn64tab)], narrowed := true }
def ChaseTwoUptoSaid : Prop := chaseTwoUptoRow.holds Tryd.pinned (OpenSpec.upto chaseTwoSpec)

/-- 'lampblacklaw01.ChaseRounds', WHERE WHAT IT READS IS OF BULK AT MOST 1048576: true; the input reads as it did. -/
def chaseRoundsUptoRow : OpenClaim := { program := "ytgcncgocdfioiaadoor", sum := "199ff16b6a5511b4f129736cc8488e6e5f9e2d9b2901ccb313b8c4911154a3ea", func := "lampblack/lampblacklaw01.ChaseRounds", spec := "chaseRounds", unfollowed := true, recurses := true, named := ["math/bits.deBruijn32tab", "math/bits.deBruijn64tab"], plainKeys := false, apart := false, laid := [("math/bits.deBruijn32tab", laid_math_bits_deBruijn32tab), ("math/bits.deBruijn64tab", laid_math_bits_deBruijn64tab)], narrowed := true }
def ChaseRoundsUptoSaid : Prop := chaseRoundsUptoRow.holds Tryd.pinned (OpenSpec.upto chaseRoundsSpec)

/-- 'lampblacklaw01.ChaseCorner', WHERE WHAT IT READS IS OF BULK AT MOST 1048576: true; the input reads as it did. -/
def chaseCornerUptoRow : OpenClaim := { program := "ytgcncgocdfioiaadoor", sum := "199ff16b6a5511b4f129736cc8488e6e5f9e2d9b2901ccb313b8c4911154a3ea", func := "lampblack/lampblacklaw01.ChaseCorner", spec := "chaseCorner", unfollowed := true, recurses := true, named := ["math/bits.deBruijn32tab", "math/bits.deBruijn64tab"], plainKeys := false, apart := false, laid := [("math/bits.deBruijn32tab", laid_math_bits_deBruijn32tab), ("math/bits.deBruijn64tab", laid_math_bits_deBruijn64tab)], narrowed := true }
def ChaseCornerUptoSaid : Prop := chaseCornerUptoRow.holds Tryd.pinned (OpenSpec.upto chaseCornerSpec)

/-- 'lampblacklaw01.ChaseSafe', WHERE WHAT IT READS IS OF BULK AT MOST 1048576: true; the input reads as it did. -/
def chaseSafeUptoRow : OpenClaim := { program := "ytgcncgocdfioiaadoor", sum := "199ff16b6a5511b4f129736cc8488e6e5f9e2d9b2901ccb313b8c4911154a3ea", func := "lampblack/lampblacklaw01.ChaseSafe", spec := "chaseSafe", unfollowed := true, recurses := true, named := ["math/bits.deBruijn32tab", "math/bits.deBruijn64tab"], plainKeys := false, apart := false, laid := [("math/bits.deBruijn32tab", laid_math_bits_deBruijn32tab), ("math/bits.deBruijn64tab", laid_math_bits_deBruijn64tab)], narrowed := true }
def ChaseSafeUptoSaid : Prop := chaseSafeUptoRow.holds Tryd.pinned (OpenSpec.upto chaseSafeSpec)

/-- 'lampblacklaw01.ChaseRanks', WHERE WHAT IT READS IS OF BULK AT MOST 1048576: true; the input reads as it did. -/
def chaseRanksUptoRow : OpenClaim := { program := "ytgcncgocdfioiaadoor", sum := "199ff16b6a5511b4f129736cc8488e6e5f9e2d9b2901ccb313b8c4911154a3ea", func := "lampblack/lampblacklaw01.ChaseRanks", spec := "chaseRanks", unfollowed := true, recurses := true, named := ["math/bits.deBruijn32tab", "math/bits.deBruijn64tab"], plainKeys := false, apart := false, laid := [("math/bits.deBruijn32tab", laid_math_bits_deBruijn32tab), ("math/bits.deBruijn64tab", laid_math_bits_deBruijn64tab)], narrowed := true }
def ChaseRanksUptoSaid : Prop := chaseRanksUptoRow.holds Tryd.pinned (OpenSpec.upto chaseRanksSpec)

/-- 'lampblacklaw01.ChaseMoves', WHERE WHAT IT READS IS OF BULK AT MOST 1048576: true; the input reads as it did. -/
def chaseMovesUptoRow : OpenClaim := { program := "ytgcncgocdfioiaadoor", sum := "199ff16b6a5511b4f129736cc8488e6e5f9e2d9b2901ccb313b8c4911154a3ea", func := "lampblack/lampblacklaw01.ChaseMoves", spec := "chaseMoves", unfollowed := true, recurses := true, named := ["math/bits.deBruijn32tab", "math/bits.deBruijn64tab"], plainKeys := false, apart := false, laid := [("math/bits.deBruijn32tab", laid_math_bits_deBruijn32tab), ("math/bits.deBruijn64tab", laid_math_bits_deBruijn64tab)], narrowed := true }
def ChaseMovesUptoSaid : Prop := chaseMovesUptoRow.holds Tryd.pinned (OpenSpec.upto chaseMovesSpec)

/-- 'lampblacklaw01.ChaseCorners', WHERE WHAT IT READS IS OF BULK AT MOST 1048576: true; the input reads as it did. -/
def chaseCornersUptoRow : OpenClaim := { program := "ytgcncgocdfioiaadoor", sum := "199ff16b6a5511b4f129736cc8488e6e5f9e2d9b2901ccb313b8c4911154a3ea", func := "lampblack/lampblacklaw01.ChaseCorners", spec := "chaseCorners", unfollowed := true, recurses := true, named := ["math/bits.deBruijn32tab", "math/bits.deBruijn64tab"], plainKeys := false, apart := false, laid := [("math/bits.deBruijn32tab", laid_math_bits_deBruijn32tab), ("math/bits.deBruijn64tab", laid_math_bits_deBruijn64tab)], narrowed := true }
def ChaseCornersUptoSaid : Prop := chaseCornersUptoRow.holds Tryd.pinned (OpenSpec.upto chaseCornersSpec)

/-- 'lampblacklaw01.ChaseChecks', WHERE WHAT IT READS IS OF BULK AT MOST 1048576: true; the input reads as it did. -/
def chaseChecksUptoRow : OpenClaim := { program := "ytgcncgocdfioiaadoor", sum := "199ff16b6a5511b4f129736cc8488e6e5f9e2d9b2901ccb313b8c4911154a3ea", func := "lampblack/lampblacklaw01.ChaseChecks", spec := "chaseChecks", unfollowed := true, recurses := true, named := ["math/bits.deBruijn32tab", "math/bits.deBruijn64tab"], plainKeys := false, apart := false, laid := [("math/bits.deBruijn32tab", laid_math_bits_deBruijn32tab), ("math/bits.deBruijn64tab", laid_math_bits_deBruijn64tab)], narrowed := true }
def ChaseChecksUptoSaid : Prop := chaseChecksUptoRow.holds Tryd.pinned (OpenSpec.upto chaseChecksSpec)

/-- 'lampblacklaw01.ChaseNames', WHERE WHAT IT READS IS OF BULK AT MOST 1048576: true; the input reads as it did. -/
def chaseNamesUptoRow : OpenClaim := { program := "ytgcncgocdfioiaadoor", sum := "199ff16b6a5511b4f129736cc8488e6e5f9e2d9b2901ccb313b8c4911154a3ea", func := "lampblack/lampblacklaw01.ChaseNames", spec := "chaseNames", unfollowed := true, recurses := true, named := ["math/bits.deBruijn32tab", "math/bits.deBruijn64tab"], plainKeys := false, apart := false, laid := [("math/bits.deBruijn32tab", laid_math_bits_deBruijn32tab), ("math/bits.deBruijn64tab", laid_math_bits_deBruijn64tab)], narrowed := true }
def ChaseNamesUptoSaid : Prop := chaseNamesUptoRow.holds Tryd.pinned (OpenSpec.upto chaseNamesSpec)

/-- 'lampblacklaw01.ChaseEither', WHERE WHAT IT READS IS OF BULK AT MOST 1048576: true; the input reads as it did. -/
def chaseEitherUptoRow : OpenClaim := { program := "ytgcncgocdfioiaadoor", sum := "199ff16b6a5511b4f129736cc8488e6e5f9e2d9b2901ccb313b8c4911154a3ea", func := "lampblack/lampblacklaw01.ChaseEither", spec := "chaseEither", unfollowed := true, recurses := true, named := ["math/bits.deBruijn32tab", "math/bits.deBruijn64tab"], plainKeys := false, apart := false, laid := [("math/bits.deBruijn32tab", laid_math_bits_deBruijn32tab), ("math/bits.deBruijn64tab", laid_math_bits_deBruijn64tab)], narrowed := true }
def ChaseEitherUptoSaid : Prop := chaseEitherUptoRow.holds Tryd.pinned (OpenSpec.upto chaseEitherSpec)

/-- 'lampblacklaw01.ChaseApart', WHERE WHAT IT READS IS OF BULK AT MOST 1048576: true; the input reads as it did. -/
def chaseApartUptoRow : OpenClaim := { program := "ytgcncgocdfioiaadoor", sum := "199ff16b6a5511b4f129736cc8488e6e5f9e2d9b2901ccb313b8c4911154a3ea", func := "lampblack/lampblacklaw01.ChaseApart", spec := "chaseApart", unfollowed := true, recurses := true, named := ["math/bits.deBruijn32tab", "math/bits.deBruijn64tab"], plainKeys := false, apart := false, laid := [("math/bits.deBruijn32tab", laid_math_bits_deBruijn32tab), ("math/bits.deBruijn64tab", laid_math_bits_deBruijn64tab)], narrowed := true }
def ChaseApartUptoSaid : Prop := chaseApartUptoRow.holds Tryd.pinned (OpenSpec.upto chaseApartSpec)

/-- 'lampblacklaw01.ChaseOne', WHERE WHAT IT READS IS OF BULK AT MOST 1048576: true; the input reads as it did. -/
def chaseOneUptoRow : OpenClaim := { program := "ytgcncgocdfioiaadoor", sum := "199ff16b6a5511b4f129736cc8488e6e5f9e2d9b2901ccb313b8c4911154a3ea", func := "lampblack/lampblacklaw01.ChaseOne", spec := "chaseOne", unfollowed := true, recurses := true, named := ["math/bits.deBruijn32tab", "math/bits.deBruijn64tab"], plainKeys := false, apart := false, laid := [("math/bits.deBruijn32tab", laid_math_bits_deBruijn32tab), ("math/bits.deBruijn64tab", laid_math_bits_deBruijn64tab)], narrowed := true }
def ChaseOneUptoSaid : Prop := chaseOneUptoRow.holds Tryd.pinned (OpenSpec.upto chaseOneSpec)

end Rows
end Go.Proofs.YtgcncgocdfioiaaDoor
