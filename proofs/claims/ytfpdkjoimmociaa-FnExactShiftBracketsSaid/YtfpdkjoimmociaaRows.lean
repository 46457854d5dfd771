/-
  No cell of these rows narrows 'for every input' (looked for: loops, veiled, ifaces, maps, wideKeys, modest, calm, conditions, laid).
  DERIVED. THE GIVEN ROWS OF THIS SEAT. 22 by the template 'for every input the law returns true; each argument reads behind the call as it read before'; 0 by the template 'total and deterministic' (their statements: YtfpdkjoimmociaaTotals.lean).
  GIVEN WITH THE SEED: the statements are not yours to turn. If you find one false, say at which input.
  Laid BY PROGRAM, IN A SANDBOX (cutbox-rows.mjs): the forced cells as the released guide's own fill.sh prints them over the translation d4fa6da43bbb49ab… (all of the seat's roots in one cut). By AI agents, Wed Nov 11 2026. No macro, syntax, notation, axiom, sorry.
-/
import Derived.Test.YtfpdkjoimmociaaChecked
import GoSem.Claim
import GoSem.ClaimJoined
import GoSem.ClaimMapViews
import Derived.JoinedTies
import Derived.KernelRfl
namespace Go.Proofs.Ytfpdkjoimmociaa
/- THE CELL 'sum', in the pinned program and in every row, IS THE sha256 OF THE DUMP (.gsa) THAT YtfpdkjoimmociaaProg.lean LOADS. Nothing in Lean hashes anything: it is a label: what it is worth is what the hold of that sum in a sandbox is worth. -/
noncomputable def Try.pinned : Pinned := { name := "ytfpdkjoimmociaa", sum := "d4fa6da43bbb49abdee6d0c565261f1dd08899fa1dcef30fb545543bd9c11137", checked := Try.checked }
namespace Rows
def none {H : Type} : Left H := { results := [], args := [] }

/-- 'laws.FnExactIsDyck': WHATEVER THE INPUT: true; the input reads as it did. -/
def fnExactIsDyckSpec : ChangeSpec := { name := "fnExactIsDyck", fn := fun _ => fun
  | [d] => { results := [.lit (.bool true)], args := [d] }
  | _ => none }
def fnExactIsDyckRow : OpenClaim := { program := "ytfpdkjoimmociaa", sum := "d4fa6da43bbb49abdee6d0c565261f1dd08899fa1dcef30fb545543bd9c11137", func := "loop.example/g03401/laws.FnExactIsDyck", spec := "fnExactIsDyck", apart := false }
def FnExactIsDyckSaid : Prop := fnExactIsDyckRow.holds Try.pinned (OpenSpec.ofChange fnExactIsDyckSpec)

/-- ITS FALSE NEIGHBOUR: 'it returns false'. Refute it at one input. -/
def fnExactIsDyckWrong : ChangeSpec := { name := "fnExactIsDyck", fn := fun _ => fun
  | [d] => { results := [.lit (.bool false)], args := [d] }
  | _ => none }
def FnExactIsDyckWrongFalsely : Prop := fnExactIsDyckRow.holds Try.pinned (OpenSpec.ofChange fnExactIsDyckWrong)

/-- 'laws.FnExactSizeOf': WHATEVER THE INPUT: true; the input reads as it did. -/
def fnExactSizeOfSpec : ChangeSpec := { name := "fnExactSizeOf", fn := fun _ => fun
  | [d] => { results := [.lit (.bool true)], args := [d] }
  | _ => none }
def fnExactSizeOfRow : OpenClaim := { program := "ytfpdkjoimmociaa", sum := "d4fa6da43bbb49abdee6d0c565261f1dd08899fa1dcef30fb545543bd9c11137", func := "loop.example/g03401/laws.FnExactSizeOf", spec := "fnExactSizeOf", apart := false }
def FnExactSizeOfSaid : Prop := fnExactSizeOfRow.holds Try.pinned (OpenSpec.ofChange fnExactSizeOfSpec)

/-- ITS FALSE NEIGHBOUR: 'it returns false'. Refute it at one input. -/
def fnExactSizeOfWrong : ChangeSpec := { name := "fnExactSizeOf", fn := fun _ => fun
  | [d] => { results := [.lit (.bool false)], args := [d] }
  | _ => none }
def FnExactSizeOfWrongFalsely : Prop := fnExactSizeOfRow.holds Try.pinned (OpenSpec.ofChange fnExactSizeOfWrong)

/-- 'laws.FnExactHeightsOf': WHATEVER THE INPUT: true; the input reads as it did. -/
def fnExactHeightsOfSpec : ChangeSpec := { name := "fnExactHeightsOf", fn := fun _ => fun
  | [d] => { results := [.lit (.bool true)], args := [d] }
  | _ => none }
def fnExactHeightsOfRow : OpenClaim := { program := "ytfpdkjoimmociaa", sum := "d4fa6da43bbb49abdee6d0c565261f1dd08899fa1dcef30fb545543bd9c11137", func := "loop.example/g03401/laws.FnExactHeightsOf", spec := "fnExactHeightsOf", apart := false }
def FnExactHeightsOfSaid : Prop := fnExactHeightsOfRow.holds Try.pinned (OpenSpec.ofChange fnExactHeightsOfSpec)

/-- ITS FALSE NEIGHBOUR: 'it returns false'. Refute it at one input. -/
def fnExactHeightsOfWrong : ChangeSpec := { name := "fnExactHeightsOf", fn := fun _ => fun
  | [d] => { results := [.lit (.bool false)], args := [d] }
  | _ => none }
def FnExactHeightsOfWrongFalsely : Prop := fnExactHeightsOfRow.holds Try.pinned (OpenSpec.ofChange fnExactHeightsOfWrong)

/-- 'laws.FnExactPathOfHeights': WHATEVER THE INPUT: true; the input reads as it did. -/
def fnExactPathOfHeightsSpec : ChangeSpec := { name := "fnExactPathOfHeights", fn := fun _ => fun
  | [d] => { results := [.lit (.bool true)], args := [d] }
  | _ => none }
def fnExactPathOfHeightsRow : OpenClaim := { program := "ytfpdkjoimmociaa", sum := "d4fa6da43bbb49abdee6d0c565261f1dd08899fa1dcef30fb545543bd9c11137", func := "loop.example/g03401/laws.FnExactPathOfHeights", spec := "fnExactPathOfHeights", apart := false }
def FnExactPathOfHeightsSaid : Prop := fnExactPathOfHeightsRow.holds Try.pinned (OpenSpec.ofChange fnExactPathOfHeightsSpec)

/-- ITS FALSE NEIGHBOUR: 'it returns false'. Refute it at one input. -/
def fnExactPathOfHeightsWrong : ChangeSpec := { name := "fnExactPathOfHeights", fn := fun _ => fun
  | [d] => { results := [.lit (.bool false)], args := [d] }
  | _ => none }
def FnExactPathOfHeightsWrongFalsely : Prop := fnExactPathOfHeightsRow.holds Try.pinned (OpenSpec.ofChange fnExactPathOfHeightsWrong)

/-- 'laws.FnExactPeaksOf': WHATEVER THE INPUT: true; the input reads as it did. -/
def fnExactPeaksOfSpec : ChangeSpec := { name := "fnExactPeaksOf", fn := fun _ => fun
  | [d] => { results := [.lit (.bool true)], args := [d] }
  | _ => none }
def fnExactPeaksOfRow : OpenClaim := { program := "ytfpdkjoimmociaa", sum := "d4fa6da43bbb49abdee6d0c565261f1dd08899fa1dcef30fb545543bd9c11137", func := "loop.example/g03401/laws.FnExactPeaksOf", spec := "fnExactPeaksOf", apart := false }
def FnExactPeaksOfSaid : Prop := fnExactPeaksOfRow.holds Try.pinned (OpenSpec.ofChange fnExactPeaksOfSpec)

/-- ITS FALSE NEIGHBOUR: 'it returns false'. Refute it at one input. -/
def fnExactPeaksOfWrong : ChangeSpec := { name := "fnExactPeaksOf", fn := fun _ => fun
  | [d] => { results := [.lit (.bool false)], args := [d] }
  | _ => none }
def FnExactPeaksOfWrongFalsely : Prop := fnExactPeaksOfRow.holds Try.pinned (OpenSpec.ofChange fnExactPeaksOfWrong)

/-- 'laws.FnExactReturnsOf': WHATEVER THE INPUT: true; the input reads as it did. -/
def fnExactReturnsOfSpec : ChangeSpec := { name := "fnExactReturnsOf", fn := fun _ => fun
  | [d] => { results := [.lit (.bool true)], args := [d] }
  | _ => none }
def fnExactReturnsOfRow : OpenClaim := { program := "ytfpdkjoimmociaa", sum := "d4fa6da43bbb49abdee6d0c565261f1dd08899fa1dcef30fb545543bd9c11137", func := "loop.example/g03401/laws.FnExactReturnsOf", spec := "fnExactReturnsOf", apart := false }
def FnExactReturnsOfSaid : Prop := fnExactReturnsOfRow.holds Try.pinned (OpenSpec.ofChange fnExactReturnsOfSpec)

/-- ITS FALSE NEIGHBOUR: 'it returns false'. Refute it at one input. -/
def fnExactReturnsOfWrong : ChangeSpec := { name := "fnExactReturnsOf", fn := fun _ => fun
  | [d] => { results := [.lit (.bool false)], args := [d] }
  | _ => none }
def FnExactReturnsOfWrongFalsely : Prop := fnExactReturnsOfRow.holds Try.pinned (OpenSpec.ofChange fnExactReturnsOfWrong)

/-- 'laws.FnExactAreaOf': WHATEVER THE INPUT: true; the input reads as it did. -/
def fnExactAreaOfSpec : ChangeSpec := { name := "fnExactAreaOf", fn := fun _ => fun
  | [d] => { results := [.lit (.bool true)], args := [d] }
  | _ => none }
def fnExactAreaOfRow : OpenClaim := { program := "ytfpdkjoimmociaa", sum := "d4fa6da43bbb49abdee6d0c565261f1dd08899fa1dcef30fb545543bd9c11137", func := "loop.example/g03401/laws.FnExactAreaOf", spec := "fnExactAreaOf", apart := false }
def FnExactAreaOfSaid : Prop := fnExactAreaOfRow.holds Try.pinned (OpenSpec.ofChange fnExactAreaOfSpec)

/-- ITS FALSE NEIGHBOUR: 'it returns false'. Refute it at one input. -/
def fnExactAreaOfWrong : ChangeSpec := { name := "fnExactAreaOf", fn := fun _ => fun
  | [d] => { results := [.lit (.bool false)], args := [d] }
  | _ => none }
def FnExactAreaOfWrongFalsely : Prop := fnExactAreaOfRow.holds Try.pinned (OpenSpec.ofChange fnExactAreaOfWrong)

/-- 'laws.FnExactReversePath': WHATEVER THE INPUT: true; the input reads as it did. -/
def fnExactReversePathSpec : ChangeSpec := { name := "fnExactReversePath", fn := fun _ => fun
  | [d] => { results := [.lit (.bool true)], args := [d] }
  | _ => none }
def fnExactReversePathRow : OpenClaim := { program := "ytfpdkjoimmociaa", sum := "d4fa6da43bbb49abdee6d0c565261f1dd08899fa1dcef30fb545543bd9c11137", func := "loop.example/g03401/laws.FnExactReversePath", spec := "fnExactReversePath", apart := false }
def FnExactReversePathSaid : Prop := fnExactReversePathRow.holds Try.pinned (OpenSpec.ofChange fnExactReversePathSpec)

/-- ITS FALSE NEIGHBOUR: 'it returns false'. Refute it at one input. -/
def fnExactReversePathWrong : ChangeSpec := { name := "fnExactReversePath", fn := fun _ => fun
  | [d] => { results := [.lit (.bool false)], args := [d] }
  | _ => none }
def FnExactReversePathWrongFalsely : Prop := fnExactReversePathRow.holds Try.pinned (OpenSpec.ofChange fnExactReversePathWrong)

/-- 'laws.FnExactFirstReturn': WHATEVER THE INPUT: true; the input reads as it did. -/
def fnExactFirstReturnSpec : ChangeSpec := { name := "fnExactFirstReturn", fn := fun _ => fun
  | [d] => { results := [.lit (.bool true)], args := [d] }
  | _ => none }
def fnExactFirstReturnRow : OpenClaim := { program := "ytfpdkjoimmociaa", sum := "d4fa6da43bbb49abdee6d0c565261f1dd08899fa1dcef30fb545543bd9c11137", func := "loop.example/g03401/laws.FnExactFirstReturn", spec := "fnExactFirstReturn", apart := false }
def FnExactFirstReturnSaid : Prop := fnExactFirstReturnRow.holds Try.pinned (OpenSpec.ofChange fnExactFirstReturnSpec)

/-- ITS FALSE NEIGHBOUR: 'it returns false'. Refute it at one input. -/
def fnExactFirstReturnWrong : ChangeSpec := { name := "fnExactFirstReturn", fn := fun _ => fun
  | [d] => { results := [.lit (.bool false)], args := [d] }
  | _ => none }
def FnExactFirstReturnWrongFalsely : Prop := fnExactFirstReturnRow.holds Try.pinned (OpenSpec.ofChange fnExactFirstReturnWrong)

/-- 'laws.FnExactJoinAtReturn': WHATEVER THE INPUT: true; the input reads as it did. -/
def fnExactJoinAtReturnSpec : ChangeSpec := { name := "fnExactJoinAtReturn", fn := fun _ => fun
  | [d1, d2] => { results := [.lit (.bool true)], args := [d1, d2] }
  | _ => none }
def fnExactJoinAtReturnRow : OpenClaim := { program := "ytfpdkjoimmociaa", sum := "d4fa6da43bbb49abdee6d0c565261f1dd08899fa1dcef30fb545543bd9c11137", func := "loop.example/g03401/laws.FnExactJoinAtReturn", spec := "fnExactJoinAtReturn", apart := false }
def FnExactJoinAtReturnSaid : Prop := fnExactJoinAtReturnRow.holds Try.pinned (OpenSpec.ofChange fnExactJoinAtReturnSpec)

/-- ITS FALSE NEIGHBOUR: 'it returns false'. Refute it at one input. -/
def fnExactJoinAtReturnWrong : ChangeSpec := { name := "fnExactJoinAtReturn", fn := fun _ => fun
  | [d1, d2] => { results := [.lit (.bool false)], args := [d1, d2] }
  | _ => none }
def FnExactJoinAtReturnWrongFalsely : Prop := fnExactJoinAtReturnRow.holds Try.pinned (OpenSpec.ofChange fnExactJoinAtReturnWrong)

/-- 'laws.FnExactPrimesOf': WHATEVER THE INPUT: true; the input reads as it did. -/
def fnExactPrimesOfSpec : ChangeSpec := { name := "fnExactPrimesOf", fn := fun _ => fun
  | [d] => { results := [.lit (.bool true)], args := [d] }
  | _ => none }
def fnExactPrimesOfRow : OpenClaim := { program := "ytfpdkjoimmociaa", sum := "d4fa6da43bbb49abdee6d0c565261f1dd08899fa1dcef30fb545543bd9c11137", func := "loop.example/g03401/laws.FnExactPrimesOf", spec := "fnExactPrimesOf", apart := false }
def FnExactPrimesOfSaid : Prop := fnExactPrimesOfRow.holds Try.pinned (OpenSpec.ofChange fnExactPrimesOfSpec)

/-- ITS FALSE NEIGHBOUR: 'it returns false'. Refute it at one input. -/
def fnExactPrimesOfWrong : ChangeSpec := { name := "fnExactPrimesOf", fn := fun _ => fun
  | [d] => { results := [.lit (.bool false)], args := [d] }
  | _ => none }
def FnExactPrimesOfWrongFalsely : Prop := fnExactPrimesOfRow.holds Try.pinned (OpenSpec.ofChange fnExactPrimesOfWrong)

/-- 'laws.FnPaths': WHATEVER THE INPUT: true; the input reads as it did. -/
def fnPathsSpec : ChangeSpec := { name := "fnPaths", fn := fun _ => fun
  | [d] => { results := [.lit (.bool true)], args := [d] }
  | _ => none }
def fnPathsRow : OpenClaim := { program := "ytfpdkjoimmociaa", sum := "d4fa6da43bbb49abdee6d0c565261f1dd08899fa1dcef30fb545543bd9c11137", func := "loop.example/g03401/laws.FnPaths", spec := "fnPaths", apart := false }
def FnPathsSaid : Prop := fnPathsRow.holds Try.pinned (OpenSpec.ofChange fnPathsSpec)

/-- ITS FALSE NEIGHBOUR: 'it returns false'. Refute it at one input. -/
def fnPathsWrong : ChangeSpec := { name := "fnPaths", fn := fun _ => fun
  | [d] => { results := [.lit (.bool false)], args := [d] }
  | _ => none }
def FnPathsWrongFalsely : Prop := fnPathsRow.holds Try.pinned (OpenSpec.ofChange fnPathsWrong)

/-- 'laws.FnExactPathsOf': WHATEVER THE INPUT: true; the input reads as it did. -/
def fnExactPathsOfSpec : ChangeSpec := { name := "fnExactPathsOf", fn := fun _ => fun
  | [d] => { results := [.lit (.bool true)], args := [d] }
  | _ => none }
def fnExactPathsOfRow : OpenClaim := { program := "ytfpdkjoimmociaa", sum := "d4fa6da43bbb49abdee6d0c565261f1dd08899fa1dcef30fb545543bd9c11137", func := "loop.example/g03401/laws.FnExactPathsOf", spec := "fnExactPathsOf", unfollowed := true, recurses := true, apart := false }
def FnExactPathsOfSaid : Prop := fnExactPathsOfRow.holds Try.pinned (OpenSpec.ofChange fnExactPathsOfSpec)

/-- ITS FALSE NEIGHBOUR: 'it returns false'. Refute it at one input. -/
def fnExactPathsOfWrong : ChangeSpec := { name := "fnExactPathsOf", fn := fun _ => fun
  | [d] => { results := [.lit (.bool false)], args := [d] }
  | _ => none }
def FnExactPathsOfWrongFalsely : Prop := fnExactPathsOfRow.holds Try.pinned (OpenSpec.ofChange fnExactPathsOfWrong)

/-- 'laws.FnExactUnrankPath': WHATEVER THE INPUT: true; the input reads as it did. -/
def fnExactUnrankPathSpec : ChangeSpec := { name := "fnExactUnrankPath", fn := fun _ => fun
  | [d1, d2] => { results := [.lit (.bool true)], args := [d1, d2] }
  | _ => none }
def fnExactUnrankPathRow : OpenClaim := { program := "ytfpdkjoimmociaa", sum := "d4fa6da43bbb49abdee6d0c565261f1dd08899fa1dcef30fb545543bd9c11137", func := "loop.example/g03401/laws.FnExactUnrankPath", spec := "fnExactUnrankPath", apart := false }
def FnExactUnrankPathSaid : Prop := fnExactUnrankPathRow.holds Try.pinned (OpenSpec.ofChange fnExactUnrankPathSpec)

/-- ITS FALSE NEIGHBOUR: 'it returns false'. Refute it at one input. -/
def fnExactUnrankPathWrong : ChangeSpec := { name := "fnExactUnrankPath", fn := fun _ => fun
  | [d1, d2] => { results := [.lit (.bool false)], args := [d1, d2] }
  | _ => none }
def FnExactUnrankPathWrongFalsely : Prop := fnExactUnrankPathRow.holds Try.pinned (OpenSpec.ofChange fnExactUnrankPathWrong)

/-- 'laws.FnExactRankPath': WHATEVER THE INPUT: true; the input reads as it did. -/
def fnExactRankPathSpec : ChangeSpec := { name := "fnExactRankPath", fn := fun _ => fun
  | [d] => { results := [.lit (.bool true)], args := [d] }
  | _ => none }
def fnExactRankPathRow : OpenClaim := { program := "ytfpdkjoimmociaa", sum := "d4fa6da43bbb49abdee6d0c565261f1dd08899fa1dcef30fb545543bd9c11137", func := "loop.example/g03401/laws.FnExactRankPath", spec := "fnExactRankPath", apart := false }
def FnExactRankPathSaid : Prop := fnExactRankPathRow.holds Try.pinned (OpenSpec.ofChange fnExactRankPathSpec)

/-- ITS FALSE NEIGHBOUR: 'it returns false'. Refute it at one input. -/
def fnExactRankPathWrong : ChangeSpec := { name := "fnExactRankPath", fn := fun _ => fun
  | [d] => { results := [.lit (.bool false)], args := [d] }
  | _ => none }
def FnExactRankPathWrongFalsely : Prop := fnExactRankPathRow.holds Try.pinned (OpenSpec.ofChange fnExactRankPathWrong)

/-- 'laws.FnExactNextPath': WHATEVER THE INPUT: true; the input reads as it did. -/
def fnExactNextPathSpec : ChangeSpec := { name := "fnExactNextPath", fn := fun _ => fun
  | [d] => { results := [.lit (.bool true)], args := [d] }
  | _ => none }
def fnExactNextPathRow : OpenClaim := { program := "ytfpdkjoimmociaa", sum := "d4fa6da43bbb49abdee6d0c565261f1dd08899fa1dcef30fb545543bd9c11137", func := "loop.example/g03401/laws.FnExactNextPath", spec := "fnExactNextPath", apart := false }
def FnExactNextPathSaid : Prop := fnExactNextPathRow.holds Try.pinned (OpenSpec.ofChange fnExactNextPathSpec)

/-- ITS FALSE NEIGHBOUR: 'it returns false'. Refute it at one input. -/
def fnExactNextPathWrong : ChangeSpec := { name := "fnExactNextPath", fn := fun _ => fun
  | [d] => { results := [.lit (.bool false)], args := [d] }
  | _ => none }
def FnExactNextPathWrongFalsely : Prop := fnExactNextPathRow.holds Try.pinned (OpenSpec.ofChange fnExactNextPathWrong)

/-- 'laws.FnExactBracketsOf': WHATEVER THE INPUT: true; the input reads as it did. -/
def fnExactBracketsOfSpec : ChangeSpec := { name := "fnExactBracketsOf", fn := fun _ => fun
  | [d] => { results := [.lit (.bool true)], args := [d] }
  | _ => none }
def fnExactBracketsOfRow : OpenClaim := { program := "ytfpdkjoimmociaa", sum := "d4fa6da43bbb49abdee6d0c565261f1dd08899fa1dcef30fb545543bd9c11137", func := "loop.example/g03401/laws.FnExactBracketsOf", spec := "fnExactBracketsOf", apart := false }
def FnExactBracketsOfSaid : Prop := fnExactBracketsOfRow.holds Try.pinned (OpenSpec.ofChange fnExactBracketsOfSpec)

/-- ITS FALSE NEIGHBOUR: 'it returns false'. Refute it at one input. -/
def fnExactBracketsOfWrong : ChangeSpec := { name := "fnExactBracketsOf", fn := fun _ => fun
  | [d] => { results := [.lit (.bool false)], args := [d] }
  | _ => none }
def FnExactBracketsOfWrongFalsely : Prop := fnExactBracketsOfRow.holds Try.pinned (OpenSpec.ofChange fnExactBracketsOfWrong)

/-- 'laws.FnExactPathOfBrackets': WHATEVER THE INPUT: true; the input reads as it did. -/
def fnExactPathOfBracketsSpec : ChangeSpec := { name := "fnExactPathOfBrackets", fn := fun _ => fun
  | [d] => { results := [.lit (.bool true)], args := [d] }
  | _ => none }
def fnExactPathOfBracketsRow : OpenClaim := { program := "ytfpdkjoimmociaa", sum := "d4fa6da43bbb49abdee6d0c565261f1dd08899fa1dcef30fb545543bd9c11137", func := "loop.example/g03401/laws.FnExactPathOfBrackets", spec := "fnExactPathOfBrackets", apart := false }
def FnExactPathOfBracketsSaid : Prop := fnExactPathOfBracketsRow.holds Try.pinned (OpenSpec.ofChange fnExactPathOfBracketsSpec)

/-- ITS FALSE NEIGHBOUR: 'it returns false'. Refute it at one input. -/
def fnExactPathOfBracketsWrong : ChangeSpec := { name := "fnExactPathOfBrackets", fn := fun _ => fun
  | [d] => { results := [.lit (.bool false)], args := [d] }
  | _ => none }
def FnExactPathOfBracketsWrongFalsely : Prop := fnExactPathOfBracketsRow.holds Try.pinned (OpenSpec.ofChange fnExactPathOfBracketsWrong)

/-- 'laws.FnExactDepthOf': WHATEVER THE INPUT: true; the input reads as it did. -/
def fnExactDepthOfSpec : ChangeSpec := { name := "fnExactDepthOf", fn := fun _ => fun
  | [d] => { results := [.lit (.bool true)], args := [d] }
  | _ => none }
def fnExactDepthOfRow : OpenClaim := { program := "ytfpdkjoimmociaa", sum := "d4fa6da43bbb49abdee6d0c565261f1dd08899fa1dcef30fb545543bd9c11137", func := "loop.example/g03401/laws.FnExactDepthOf", spec := "fnExactDepthOf", apart := false }
def FnExactDepthOfSaid : Prop := fnExactDepthOfRow.holds Try.pinned (OpenSpec.ofChange fnExactDepthOfSpec)

/-- ITS FALSE NEIGHBOUR: 'it returns false'. Refute it at one input. -/
def fnExactDepthOfWrong : ChangeSpec := { name := "fnExactDepthOf", fn := fun _ => fun
  | [d] => { results := [.lit (.bool false)], args := [d] }
  | _ => none }
def FnExactDepthOfWrongFalsely : Prop := fnExactDepthOfRow.holds Try.pinned (OpenSpec.ofChange fnExactDepthOfWrong)

/-- 'laws.FnExactShiftBrackets': WHATEVER THE INPUT: true; the input reads as it did. -/
def fnExactShiftBracketsSpec : ChangeSpec := { name := "fnExactShiftBrackets", fn := fun _ => fun
  | [d] => { results := [.lit (.bool true)], args := [d] }
  | _ => none }
def fnExactShiftBracketsRow : OpenClaim := { program := "ytfpdkjoimmociaa", sum := "d4fa6da43bbb49abdee6d0c565261f1dd08899fa1dcef30fb545543bd9c11137", func := "loop.example/g03401/laws.FnExactShiftBrackets", spec := "fnExactShiftBrackets", apart := false }
def FnExactShiftBracketsSaid : Prop := fnExactShiftBracketsRow.holds Try.pinned (OpenSpec.ofChange fnExactShiftBracketsSpec)

/-- ITS FALSE NEIGHBOUR: 'it returns false'. Refute it at one input. -/
def fnExactShiftBracketsWrong : ChangeSpec := { name := "fnExactShiftBrackets", fn := fun _ => fun
  | [d] => { results := [.lit (.bool false)], args := [d] }
  | _ => none }
def FnExactShiftBracketsWrongFalsely : Prop := fnExactShiftBracketsRow.holds Try.pinned (OpenSpec.ofChange fnExactShiftBracketsWrong)

/-- 'laws.FnExactPartnerOf': WHATEVER THE INPUT: true; the input reads as it did. -/
def fnExactPartnerOfSpec : ChangeSpec := { name := "fnExactPartnerOf", fn := fun _ => fun
  | [d1, d2] => { results := [.lit (.bool true)], args := [d1, d2] }
  | _ => none }
def fnExactPartnerOfRow : OpenClaim := { program := "ytfpdkjoimmociaa", sum := "d4fa6da43bbb49abdee6d0c565261f1dd08899fa1dcef30fb545543bd9c11137", func := "loop.example/g03401/laws.FnExactPartnerOf", spec := "fnExactPartnerOf", apart := false }
def FnExactPartnerOfSaid : Prop := fnExactPartnerOfRow.holds Try.pinned (OpenSpec.ofChange fnExactPartnerOfSpec)

/-- ITS FALSE NEIGHBOUR: 'it returns false'. Refute it at one input. -/
def fnExactPartnerOfWrong : ChangeSpec := { name := "fnExactPartnerOf", fn := fun _ => fun
  | [d1, d2] => { results := [.lit (.bool false)], args := [d1, d2] }
  | _ => none }
def FnExactPartnerOfWrongFalsely : Prop := fnExactPartnerOfRow.holds Try.pinned (OpenSpec.ofChange fnExactPartnerOfWrong)

/-- 'laws.FnExactNestedPairs': WHATEVER THE INPUT: true; the input reads as it did. -/
def fnExactNestedPairsSpec : ChangeSpec := { name := "fnExactNestedPairs", fn := fun _ => fun
  | [d] => { results := [.lit (.bool true)], args := [d] }
  | _ => none }
def fnExactNestedPairsRow : OpenClaim := { program := "ytfpdkjoimmociaa", sum := "d4fa6da43bbb49abdee6d0c565261f1dd08899fa1dcef30fb545543bd9c11137", func := "loop.example/g03401/laws.FnExactNestedPairs", spec := "fnExactNestedPairs", apart := false }
def FnExactNestedPairsSaid : Prop := fnExactNestedPairsRow.holds Try.pinned (OpenSpec.ofChange fnExactNestedPairsSpec)

/-- ITS FALSE NEIGHBOUR: 'it returns false'. Refute it at one input. -/
def fnExactNestedPairsWrong : ChangeSpec := { name := "fnExactNestedPairs", fn := fun _ => fun
  | [d] => { results := [.lit (.bool false)], args := [d] }
  | _ => none }
def FnExactNestedPairsWrongFalsely : Prop := fnExactNestedPairsRow.holds Try.pinned (OpenSpec.ofChange fnExactNestedPairsWrong)

/- THE SECOND FORM. 'bulk': how many values and letters a reading holds, each counted each time it is reached (what is shared counts as often as it is met; a slice's spare places count too). A statement '..UptoSaid' is the law's where the arguments, and the package variables that the reading takes, are together of bulk at most 1048576: NARROWER than '..Said'. Prove '..Said' where nothing that the law and all that it calls make is longer than what came in: it says more and counts as full. Else prove '..UptoSaid'. A law counts once. -/
mutual
def uptoBulk {H : Type} : DataW H → Nat
  | .lit (.string bytes) => bytes.length + 1
  | .lit _ => 1
  | .nil => 1
  | .ptr d => uptoBulk d + 1
  | .slice elems spare => uptoBulkAll elems + uptoBulkAll spare + 1
  | .agg parts => uptoBulkAll parts + 1
  | .iface _ d => uptoBulk d + 1
  | .map entries => uptoBulkEntries entries + 1
  | .held _ => 1
def uptoBulkAll {H : Type} : List (DataW H) → Nat
  | [] => 0
  | d :: r => uptoBulk d + uptoBulkAll r
def uptoBulkEntries {H : Type} : List (Lit × DataW H) → Nat
  | [] => 0
  | x :: r => uptoBulkEntry x + uptoBulkEntries r
def uptoBulkEntry {H : Type} : Lit × DataW H → Nat
  | (.string bytes, d) => bytes.length + uptoBulk d + 1
  | (_, d) => uptoBulk d + 1
 end
def uptoSmall : (H : Type) → List (DataW H) → Bool := fun _ ds => decide (uptoBulkAll ds ≤ 1048576)
def OpenSpec.upto (s : _root_.Go.ChangeSpec) : _root_.Go.OpenSpec := { _root_.Go.OpenSpec.ofChange s with cond := some uptoSmall }

/-- 'laws.FnExactIsDyck', WHERE WHAT IT READS IS OF BULK AT MOST 1048576: true; the input reads as it did. -/
def fnExactIsDyckUptoRow : OpenClaim := { program := "ytfpdkjoimmociaa", sum := "d4fa6da43bbb49abdee6d0c565261f1dd08899fa1dcef30fb545543bd9c11137", func := "loop.example/g03401/laws.FnExactIsDyck", spec := "fnExactIsDyck", apart := false, narrowed := true }
def FnExactIsDyckUptoSaid : Prop := fnExactIsDyckUptoRow.holds Try.pinned (OpenSpec.upto fnExactIsDyckSpec)

/-- 'laws.FnExactSizeOf', WHERE WHAT IT READS IS OF BULK AT MOST 1048576: true; the input reads as it did. -/
def fnExactSizeOfUptoRow : OpenClaim := { program := "ytfpdkjoimmociaa", sum := "d4fa6da43bbb49abdee6d0c565261f1dd08899fa1dcef30fb545543bd9c11137", func := "loop.example/g03401/laws.FnExactSizeOf", spec := "fnExactSizeOf", apart := false, narrowed := true }
def FnExactSizeOfUptoSaid : Prop := fnExactSizeOfUptoRow.holds Try.pinned (OpenSpec.upto fnExactSizeOfSpec)

/-- 'laws.FnExactHeightsOf', WHERE WHAT IT READS IS OF BULK AT MOST 1048576: true; the input reads as it did. -/
def fnExactHeightsOfUptoRow : OpenClaim := { program := "ytfpdkjoimmociaa", sum := "d4fa6da43bbb49abdee6d0c565261f1dd08899fa1dcef30fb545543bd9c11137", func := "loop.example/g03401/laws.FnExactHeightsOf", spec := "fnExactHeightsOf", apart := false, narrowed := true }
def FnExactHeightsOfUptoSaid : Prop := fnExactHeightsOfUptoRow.holds Try.pinned (OpenSpec.upto fnExactHeightsOfSpec)

/-- 'laws.FnExactPathOfHeights', WHERE WHAT IT READS IS OF BULK AT MOST 1048576: true; the input reads as it did. -/
def fnExactPathOfHeightsUptoRow : OpenClaim := { program := "ytfpdkjoimmociaa", sum := "d4fa6da43bbb49abdee6d0c565261f1dd08899fa1dcef30fb545543bd9c11137", func := "loop.example/g03401/laws.FnExactPathOfHeights", spec := "fnExactPathOfHeights", apart := false, narrowed := true }
def FnExactPathOfHeightsUptoSaid : Prop := fnExactPathOfHeightsUptoRow.holds Try.pinned (OpenSpec.upto fnExactPathOfHeightsSpec)

/-- 'laws.FnExactPeaksOf', WHERE WHAT IT READS IS OF BULK AT MOST 1048576: true; the input reads as it did. -/
def fnExactPeaksOfUptoRow : OpenClaim := { program := "ytfpdkjoimmociaa", sum := "d4fa6da43bbb49abdee6d0c565261f1dd08899fa1dcef30fb545543bd9c11137", func := "loop.example/g03401/laws.FnExactPeaksOf", spec := "fnExactPeaksOf", apart := false, narrowed := true }
def FnExactPeaksOfUptoSaid : Prop := fnExactPeaksOfUptoRow.holds Try.pinned (OpenSpec.upto fnExactPeaksOfSpec)

/-- 'laws.FnExactReturnsOf', WHERE WHAT IT READS IS OF BULK AT MOST 1048576: true; the input reads as it did. -/
def fnExactReturnsOfUptoRow : OpenClaim := { program := "ytfpdkjoimmociaa", sum := "d4fa6da43bbb49abdee6d0c565261f1dd08899fa1dcef30fb545543bd9c11137", func := "loop.example/g03401/laws.FnExactReturnsOf", spec := "fnExactReturnsOf", apart := false, narrowed := true }
def FnExactReturnsOfUptoSaid : Prop := fnExactReturnsOfUptoRow.holds Try.pinned (OpenSpec.upto fnExactReturnsOfSpec)

/-- 'laws.FnExactAreaOf', WHERE WHAT IT READS IS OF BULK AT MOST 1048576: true; the input reads as it did. -/
def fnExactAreaOfUptoRow : OpenClaim := { program := "ytfpdkjoimmociaa", sum := "d4fa6da43bbb49abdee6d0c565261f1dd08899fa1dcef30fb545543bd9c11137", func := "loop.example/g03401/laws.FnExactAreaOf", spec := "fnExactAreaOf", apart := false, narrowed := true }
def FnExactAreaOfUptoSaid : Prop := fnExactAreaOfUptoRow.holds Try.pinned (OpenSpec.upto fnExactAreaOfSpec)

/-- 'laws.FnExactReversePath', WHERE WHAT IT READS IS OF BULK AT MOST 1048576: true; the input reads as it did. -/
def fnExactReversePathUptoRow : OpenClaim := { program := "ytfpdkjoimmociaa", sum := "d4fa6da43bbb49abdee6d0c565261f1dd08899fa1dcef30fb545543bd9c11137", func := "loop.example/g03401/laws.FnExactReversePath", spec := "fnExactReversePath", apart := false, narrowed := true }
def FnExactReversePathUptoSaid : Prop := fnExactReversePathUptoRow.holds Try.pinned (OpenSpec.upto fnExactReversePathSpec)

/-- 'laws.FnExactFirstReturn', WHERE WHAT IT READS IS OF BULK AT MOST 1048576: true; the input reads as it did. -/
def fnExactFirstReturnUptoRow : OpenClaim := { program := "ytfpdkjoimmociaa", sum := "d4fa6da43bbb49abdee6d0c565261f1dd08899fa1dcef30fb545543bd9c11137", func := "loop.example/g03401/laws.FnExactFirstReturn", spec := "fnExactFirstReturn", apart := false, narrowed := true }
def FnExactFirstReturnUptoSaid : Prop := fnExactFirstReturnUptoRow.holds Try.pinned (OpenSpec.upto fnExactFirstReturnSpec)

/-- 'laws.FnExactJoinAtReturn', WHERE WHAT IT READS IS OF BULK AT MOST 1048576: true; the input reads as it did. -/
def fnExactJoinAtReturnUptoRow : OpenClaim := { program := "ytfpdkjoimmociaa", sum := "d4fa6da43bbb49abdee6d0c565261f1dd08899fa1dcef30fb545543bd9c11137", func := "loop.example/g03401/laws.FnExactJoinAtReturn", spec := "fnExactJoinAtReturn", apart := false, narrowed := true }
def FnExactJoinAtReturnUptoSaid : Prop := fnExactJoinAtReturnUptoRow.holds Try.pinned (OpenSpec.upto fnExactJoinAtReturnSpec)

/-- 'laws.FnExactPrimesOf', WHERE WHAT IT READS IS OF BULK AT MOST 1048576: true; the input reads as it did. -/
def fnExactPrimesOfUptoRow : OpenClaim := { program := "ytfpdkjoimmociaa", sum := "d4fa6da43bbb49abdee6d0c565261f1dd08899fa1dcef30fb545543bd9c11137", func := "loop.example/g03401/laws.FnExactPrimesOf", spec := "fnExactPrimesOf", apart := false, narrowed := true }
def FnExactPrimesOfUptoSaid : Prop := fnExactPrimesOfUptoRow.holds Try.pinned (OpenSpec.upto fnExactPrimesOfSpec)

/-- 'laws.FnPaths', WHERE WHAT IT READS IS OF BULK AT MOST 1048576: true; the input reads as it did. -/
def fnPathsUptoRow : OpenClaim := { program := "ytfpdkjoimmociaa", sum := "d4fa6da43bbb49abdee6d0c565261f1dd08899fa1dcef30fb545543bd9c11137", func := "loop.example/g03401/laws.FnPaths", spec := "fnPaths", apart := false, narrowed := true }
def FnPathsUptoSaid : Prop := fnPathsUptoRow.holds Try.pinned (OpenSpec.upto fnPathsSpec)

/-- 'laws.FnExactPathsOf', WHERE WHAT IT READS IS OF BULK AT MOST 1048576: true; the input reads as it did. -/
def fnExactPathsOfUptoRow : OpenClaim := { program := "ytfpdkjoimmociaa", sum := "d4fa6da43bbb49abdee6d0c565261f1dd08899fa1dcef30fb545543bd9c11137", func := "loop.example/g03401/laws.FnExactPathsOf", spec := "fnExactPathsOf", unfollowed := true, recurses := true, apart := false, narrowed := true }
def FnExactPathsOfUptoSaid : Prop := fnExactPathsOfUptoRow.holds Try.pinned (OpenSpec.upto fnExactPathsOfSpec)

/-- 'laws.FnExactUnrankPath', WHERE WHAT IT READS IS OF BULK AT MOST 1048576: true; the input reads as it did. -/
def fnExactUnrankPathUptoRow : OpenClaim := { program := "ytfpdkjoimmociaa", sum := "d4fa6da43bbb49abdee6d0c565261f1dd08899fa1dcef30fb545543bd9c11137", func := "loop.example/g03401/laws.FnExactUnrankPath", spec := "fnExactUnrankPath", apart := false, narrowed := true }
def FnExactUnrankPathUptoSaid : Prop := fnExactUnrankPathUptoRow.holds Try.pinned (OpenSpec.upto fnExactUnrankPathSpec)

/-- 'laws.FnExactRankPath', WHERE WHAT IT READS IS OF BULK AT MOST 1048576: true; the input reads as it did. -/
def fnExactRankPathUptoRow : OpenClaim := { program := "ytfpdkjoimmociaa", sum := "d4fa6da43bbb49abdee6d0c565261f1dd08899fa1dcef30fb545543bd9c11137", func := "loop.example/g03401/laws.FnExactRankPath", spec := "fnExactRankPath", apart := false, narrowed := true }
def FnExactRankPathUptoSaid : Prop := fnExactRankPathUptoRow.holds Try.pinned (OpenSpec.upto fnExactRankPathSpec)

/-- 'laws.FnExactNextPath', WHERE WHAT IT READS IS OF BULK AT MOST 1048576: true; the input reads as it did. -/
def fnExactNextPathUptoRow : OpenClaim := { program := "ytfpdkjoimmociaa", sum := "d4fa6da43bbb49abdee6d0c565261f1dd08899fa1dcef30fb545543bd9c11137", func := "loop.example/g03401/laws.FnExactNextPath", spec := "fnExactNextPath", apart := false, narrowed := true }
def FnExactNextPathUptoSaid : Prop := fnExactNextPathUptoRow.holds Try.pinned (OpenSpec.upto fnExactNextPathSpec)

/-- 'laws.FnExactBracketsOf', WHERE WHAT IT READS IS OF BULK AT MOST 1048576: true; the input reads as it did. -/
def fnExactBracketsOfUptoRow : OpenClaim := { program := "ytfpdkjoimmociaa", sum := "d4fa6da43bbb49abdee6d0c565261f1dd08899fa1dcef30fb545543bd9c11137", func := "loop.example/g03401/laws.FnExactBracketsOf", spec := "fnExactBracketsOf", apart := false, narrowed := true }
def FnExactBracketsOfUptoSaid : Prop := fnExactBracketsOfUptoRow.holds Try.pinned (OpenSpec.upto fnExactBracketsOfSpec)

/-- 'laws.FnExactPathOfBrackets', WHERE WHAT IT READS IS OF BULK AT MOST 1048576: true; the input reads as it did. -/
def fnExactPathOfBracketsUptoRow : OpenClaim := { program := "ytfpdkjoimmociaa", sum := "d4fa6da43bbb49abdee6d0c565261f1dd08899fa1dcef30fb545543bd9c11137", func := "loop.example/g03401/laws.FnExactPathOfBrackets", spec := "fnExactPathOfBrackets", apart := false, narrowed := true }
def FnExactPathOfBracketsUptoSaid : Prop := fnExactPathOfBracketsUptoRow.holds Try.pinned (OpenSpec.upto fnExactPathOfBracketsSpec)

/-- 'laws.FnExactDepthOf', WHERE WHAT IT READS IS OF BULK AT MOST 1048576: true; the input reads as it did. -/
def fnExactDepthOfUptoRow : OpenClaim := { program := "ytfpdkjoimmociaa", sum := "d4fa6da43bbb49abdee6d0c565261f1dd08899fa1dcef30fb545543bd9c11137", func := "loop.example/g03401/laws.FnExactDepthOf", spec := "fnExactDepthOf", apart := false, narrowed := true }
def FnExactDepthOfUptoSaid : Prop := fnExactDepthOfUptoRow.holds Try.pinned (OpenSpec.upto fnExactDepthOfSpec)

/-- 'laws.FnExactShiftBrackets', WHERE WHAT IT READS IS OF BULK AT MOST 1048576: true; the input reads as it did. -/
def fnExactShiftBracketsUptoRow : OpenClaim := { program := "ytfpdkjoimmociaa", sum := "d4fa6da43bbb49abdee6d0c565261f1dd08899fa1dcef30fb545543bd9c11137", func := "loop.example/g03401/laws.FnExactShiftBrackets", spec := "fnExactShiftBrackets", apart := false, narrowed := true }
def FnExactShiftBracketsUptoSaid : Prop := fnExactShiftBracketsUptoRow.holds Try.pinned (OpenSpec.upto fnExactShiftBracketsSpec)

/-- 'laws.FnExactPartnerOf', WHERE WHAT IT READS IS OF BULK AT MOST 1048576: true; the input reads as it did. -/
def fnExactPartnerOfUptoRow : OpenClaim := { program := "ytfpdkjoimmociaa", sum := "d4fa6da43bbb49abdee6d0c565261f1dd08899fa1dcef30fb545543bd9c11137", func := "loop.example/g03401/laws.FnExactPartnerOf", spec := "fnExactPartnerOf", apart := false, narrowed := true }
def FnExactPartnerOfUptoSaid : Prop := fnExactPartnerOfUptoRow.holds Try.pinned (OpenSpec.upto fnExactPartnerOfSpec)

/-- 'laws.FnExactNestedPairs', WHERE WHAT IT READS IS OF BULK AT MOST 1048576: true; the input reads as it did. -/
def fnExactNestedPairsUptoRow : OpenClaim := { program := "ytfpdkjoimmociaa", sum := "d4fa6da43bbb49abdee6d0c565261f1dd08899fa1dcef30fb545543bd9c11137", func := "loop.example/g03401/laws.FnExactNestedPairs", spec := "fnExactNestedPairs", apart := false, narrowed := true }
def FnExactNestedPairsUptoSaid : Prop := fnExactNestedPairsUptoRow.holds Try.pinned (OpenSpec.upto fnExactNestedPairsSpec)

end Rows
end Go.Proofs.Ytfpdkjoimmociaa
