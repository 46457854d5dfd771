/-
  No cell of these rows narrows 'for every input' (looked for: loops, veiled, ifaces, maps, wideKeys, modest, calm, conditions, laid).
  DERIVED. THE GIVEN ROWS OF THIS SEAT. 11 by the template 'for every input the law returns true; each argument reads behind the call as it read before'; 0 by the template 'total and deterministic' (their statements: YtndehfkamfmmeaaTotals.lean).
  GIVEN WITH THE SEED: the statements are not yours to turn. If you find one false, say at which input.
  Laid BY PROGRAM, IN A SANDBOX (cutbox-rows.mjs): the forced cells as the released guide's own fill.sh prints them over the translation d5a17fbfd59ec41c… (all of the seat's roots in one cut). By AI agents, Wed Nov 11 2026. No macro, syntax, notation, axiom, sorry.
-/
import Derived.Test.YtndehfkamfmmeaaChecked
import GoSem.Claim
import GoSem.ClaimJoined
import GoSem.ClaimMapViews
import Derived.JoinedTies
import Derived.KernelRfl
namespace Go.Proofs.Ytndehfkamfmmeaa
/- THE CELL 'sum', in the pinned program and in every row, IS THE sha256 OF THE DUMP (.gsa) THAT YtndehfkamfmmeaaProg.lean LOADS. Nothing in Lean hashes anything: it is a label: what it is worth is what the hold of that sum in a sandbox is worth. -/
noncomputable def Try.pinned : Pinned := { name := "ytndehfkamfmmeaa", sum := "d5a17fbfd59ec41cec204038227fe644f3cb2a104acdea5f05ab9a4052508a71", checked := Try.checked }
namespace Rows
def none {H : Type} : Left H := { results := [], args := [] }

/-- 'laws.FnExactIsPlane': WHATEVER THE INPUT: true; the input reads as it did. -/
def fnExactIsPlaneSpec : ChangeSpec := { name := "fnExactIsPlane", fn := fun _ => fun
  | [d] => { results := [.lit (.bool true)], args := [d] }
  | _ => none }
def fnExactIsPlaneRow : OpenClaim := { program := "ytndehfkamfmmeaa", sum := "d5a17fbfd59ec41cec204038227fe644f3cb2a104acdea5f05ab9a4052508a71", func := "loop.example/g03401/laws.FnExactIsPlane", spec := "fnExactIsPlane", apart := false }
def FnExactIsPlaneSaid : Prop := fnExactIsPlaneRow.holds Try.pinned (OpenSpec.ofChange fnExactIsPlaneSpec)

/-- ITS FALSE NEIGHBOUR: 'it returns false'. Refute it at one input. -/
def fnExactIsPlaneWrong : ChangeSpec := { name := "fnExactIsPlane", fn := fun _ => fun
  | [d] => { results := [.lit (.bool false)], args := [d] }
  | _ => none }
def FnExactIsPlaneWrongFalsely : Prop := fnExactIsPlaneRow.holds Try.pinned (OpenSpec.ofChange fnExactIsPlaneWrong)

/-- 'laws.FnExactChildrenOf': WHATEVER THE INPUT: true; the input reads as it did. -/
def fnExactChildrenOfSpec : ChangeSpec := { name := "fnExactChildrenOf", fn := fun _ => fun
  | [d1, d2] => { results := [.lit (.bool true)], args := [d1, d2] }
  | _ => none }
def fnExactChildrenOfRow : OpenClaim := { program := "ytndehfkamfmmeaa", sum := "d5a17fbfd59ec41cec204038227fe644f3cb2a104acdea5f05ab9a4052508a71", func := "loop.example/g03401/laws.FnExactChildrenOf", spec := "fnExactChildrenOf", apart := false }
def FnExactChildrenOfSaid : Prop := fnExactChildrenOfRow.holds Try.pinned (OpenSpec.ofChange fnExactChildrenOfSpec)

/-- ITS FALSE NEIGHBOUR: 'it returns false'. Refute it at one input. -/
def fnExactChildrenOfWrong : ChangeSpec := { name := "fnExactChildrenOf", fn := fun _ => fun
  | [d1, d2] => { results := [.lit (.bool false)], args := [d1, d2] }
  | _ => none }
def FnExactChildrenOfWrongFalsely : Prop := fnExactChildrenOfRow.holds Try.pinned (OpenSpec.ofChange fnExactChildrenOfWrong)

/-- 'laws.FnExactLeavesOf': WHATEVER THE INPUT: true; the input reads as it did. -/
def fnExactLeavesOfSpec : ChangeSpec := { name := "fnExactLeavesOf", fn := fun _ => fun
  | [d] => { results := [.lit (.bool true)], args := [d] }
  | _ => none }
def fnExactLeavesOfRow : OpenClaim := { program := "ytndehfkamfmmeaa", sum := "d5a17fbfd59ec41cec204038227fe644f3cb2a104acdea5f05ab9a4052508a71", func := "loop.example/g03401/laws.FnExactLeavesOf", spec := "fnExactLeavesOf", apart := false }
def FnExactLeavesOfSaid : Prop := fnExactLeavesOfRow.holds Try.pinned (OpenSpec.ofChange fnExactLeavesOfSpec)

/-- ITS FALSE NEIGHBOUR: 'it returns false'. Refute it at one input. -/
def fnExactLeavesOfWrong : ChangeSpec := { name := "fnExactLeavesOf", fn := fun _ => fun
  | [d] => { results := [.lit (.bool false)], args := [d] }
  | _ => none }
def FnExactLeavesOfWrongFalsely : Prop := fnExactLeavesOfRow.holds Try.pinned (OpenSpec.ofChange fnExactLeavesOfWrong)

/-- 'laws.FnExactLevelsOf': WHATEVER THE INPUT: true; the input reads as it did. -/
def fnExactLevelsOfSpec : ChangeSpec := { name := "fnExactLevelsOf", fn := fun _ => fun
  | [d] => { results := [.lit (.bool true)], args := [d] }
  | _ => none }
def fnExactLevelsOfRow : OpenClaim := { program := "ytndehfkamfmmeaa", sum := "d5a17fbfd59ec41cec204038227fe644f3cb2a104acdea5f05ab9a4052508a71", func := "loop.example/g03401/laws.FnExactLevelsOf", spec := "fnExactLevelsOf", apart := false }
def FnExactLevelsOfSaid : Prop := fnExactLevelsOfRow.holds Try.pinned (OpenSpec.ofChange fnExactLevelsOfSpec)

/-- ITS FALSE NEIGHBOUR: 'it returns false'. Refute it at one input. -/
def fnExactLevelsOfWrong : ChangeSpec := { name := "fnExactLevelsOf", fn := fun _ => fun
  | [d] => { results := [.lit (.bool false)], args := [d] }
  | _ => none }
def FnExactLevelsOfWrongFalsely : Prop := fnExactLevelsOfRow.holds Try.pinned (OpenSpec.ofChange fnExactLevelsOfWrong)

/-- 'laws.FnExactPathOfPlane': WHATEVER THE INPUT: true; the input reads as it did. -/
def fnExactPathOfPlaneSpec : ChangeSpec := { name := "fnExactPathOfPlane", fn := fun _ => fun
  | [d] => { results := [.lit (.bool true)], args := [d] }
  | _ => none }
def fnExactPathOfPlaneRow : OpenClaim := { program := "ytndehfkamfmmeaa", sum := "d5a17fbfd59ec41cec204038227fe644f3cb2a104acdea5f05ab9a4052508a71", func := "loop.example/g03401/laws.FnExactPathOfPlane", spec := "fnExactPathOfPlane", apart := false }
def FnExactPathOfPlaneSaid : Prop := fnExactPathOfPlaneRow.holds Try.pinned (OpenSpec.ofChange fnExactPathOfPlaneSpec)

/-- ITS FALSE NEIGHBOUR: 'it returns false'. Refute it at one input. -/
def fnExactPathOfPlaneWrong : ChangeSpec := { name := "fnExactPathOfPlane", fn := fun _ => fun
  | [d] => { results := [.lit (.bool false)], args := [d] }
  | _ => none }
def FnExactPathOfPlaneWrongFalsely : Prop := fnExactPathOfPlaneRow.holds Try.pinned (OpenSpec.ofChange fnExactPathOfPlaneWrong)

/-- 'laws.FnExactPlaneOf': WHATEVER THE INPUT: true; the input reads as it did. -/
def fnExactPlaneOfSpec : ChangeSpec := { name := "fnExactPlaneOf", fn := fun _ => fun
  | [d] => { results := [.lit (.bool true)], args := [d] }
  | _ => none }
def fnExactPlaneOfRow : OpenClaim := { program := "ytndehfkamfmmeaa", sum := "d5a17fbfd59ec41cec204038227fe644f3cb2a104acdea5f05ab9a4052508a71", func := "loop.example/g03401/laws.FnExactPlaneOf", spec := "fnExactPlaneOf", apart := false }
def FnExactPlaneOfSaid : Prop := fnExactPlaneOfRow.holds Try.pinned (OpenSpec.ofChange fnExactPlaneOfSpec)

/-- ITS FALSE NEIGHBOUR: 'it returns false'. Refute it at one input. -/
def fnExactPlaneOfWrong : ChangeSpec := { name := "fnExactPlaneOf", fn := fun _ => fun
  | [d] => { results := [.lit (.bool false)], args := [d] }
  | _ => none }
def FnExactPlaneOfWrongFalsely : Prop := fnExactPlaneOfRow.holds Try.pinned (OpenSpec.ofChange fnExactPlaneOfWrong)

/-- 'laws.FnExactFormatPlane': WHATEVER THE INPUT: true; the input reads as it did. -/
def fnExactFormatPlaneSpec : ChangeSpec := { name := "fnExactFormatPlane", fn := fun _ => fun
  | [d] => { results := [.lit (.bool true)], args := [d] }
  | _ => none }
def fnExactFormatPlaneRow : OpenClaim := { program := "ytndehfkamfmmeaa", sum := "d5a17fbfd59ec41cec204038227fe644f3cb2a104acdea5f05ab9a4052508a71", func := "loop.example/g03401/laws.FnExactFormatPlane", spec := "fnExactFormatPlane", apart := false }
def FnExactFormatPlaneSaid : Prop := fnExactFormatPlaneRow.holds Try.pinned (OpenSpec.ofChange fnExactFormatPlaneSpec)

/-- ITS FALSE NEIGHBOUR: 'it returns false'. Refute it at one input. -/
def fnExactFormatPlaneWrong : ChangeSpec := { name := "fnExactFormatPlane", fn := fun _ => fun
  | [d] => { results := [.lit (.bool false)], args := [d] }
  | _ => none }
def FnExactFormatPlaneWrongFalsely : Prop := fnExactFormatPlaneRow.holds Try.pinned (OpenSpec.ofChange fnExactFormatPlaneWrong)

/-- 'laws.FnExactMirrorPlane': WHATEVER THE INPUT: true; the input reads as it did. -/
def fnExactMirrorPlaneSpec : ChangeSpec := { name := "fnExactMirrorPlane", fn := fun _ => fun
  | [d] => { results := [.lit (.bool true)], args := [d] }
  | _ => none }
def fnExactMirrorPlaneRow : OpenClaim := { program := "ytndehfkamfmmeaa", sum := "d5a17fbfd59ec41cec204038227fe644f3cb2a104acdea5f05ab9a4052508a71", func := "loop.example/g03401/laws.FnExactMirrorPlane", spec := "fnExactMirrorPlane", apart := false }
def FnExactMirrorPlaneSaid : Prop := fnExactMirrorPlaneRow.holds Try.pinned (OpenSpec.ofChange fnExactMirrorPlaneSpec)

/-- ITS FALSE NEIGHBOUR: 'it returns false'. Refute it at one input. -/
def fnExactMirrorPlaneWrong : ChangeSpec := { name := "fnExactMirrorPlane", fn := fun _ => fun
  | [d] => { results := [.lit (.bool false)], args := [d] }
  | _ => none }
def FnExactMirrorPlaneWrongFalsely : Prop := fnExactMirrorPlaneRow.holds Try.pinned (OpenSpec.ofChange fnExactMirrorPlaneWrong)

/-- 'laws.FnPlane': WHATEVER THE INPUT: true; the input reads as it did. -/
def fnPlaneSpec : ChangeSpec := { name := "fnPlane", fn := fun _ => fun
  | [d] => { results := [.lit (.bool true)], args := [d] }
  | _ => none }
def fnPlaneRow : OpenClaim := { program := "ytndehfkamfmmeaa", sum := "d5a17fbfd59ec41cec204038227fe644f3cb2a104acdea5f05ab9a4052508a71", func := "loop.example/g03401/laws.FnPlane", spec := "fnPlane", apart := false }
def FnPlaneSaid : Prop := fnPlaneRow.holds Try.pinned (OpenSpec.ofChange fnPlaneSpec)

/-- ITS FALSE NEIGHBOUR: 'it returns false'. Refute it at one input. -/
def fnPlaneWrong : ChangeSpec := { name := "fnPlane", fn := fun _ => fun
  | [d] => { results := [.lit (.bool false)], args := [d] }
  | _ => none }
def FnPlaneWrongFalsely : Prop := fnPlaneRow.holds Try.pinned (OpenSpec.ofChange fnPlaneWrong)

/-- 'laws.FnExactFormatDiagonals': WHATEVER THE INPUT: true; the input reads as it did. -/
def fnExactFormatDiagonalsSpec : ChangeSpec := { name := "fnExactFormatDiagonals", fn := fun _ => fun
  | [d] => { results := [.lit (.bool true)], args := [d] }
  | _ => none }
def fnExactFormatDiagonalsRow : OpenClaim := { program := "ytndehfkamfmmeaa", sum := "d5a17fbfd59ec41cec204038227fe644f3cb2a104acdea5f05ab9a4052508a71", func := "loop.example/g03401/laws.FnExactFormatDiagonals", spec := "fnExactFormatDiagonals", apart := false }
def FnExactFormatDiagonalsSaid : Prop := fnExactFormatDiagonalsRow.holds Try.pinned (OpenSpec.ofChange fnExactFormatDiagonalsSpec)

/-- ITS FALSE NEIGHBOUR: 'it returns false'. Refute it at one input. -/
def fnExactFormatDiagonalsWrong : ChangeSpec := { name := "fnExactFormatDiagonals", fn := fun _ => fun
  | [d] => { results := [.lit (.bool false)], args := [d] }
  | _ => none }
def FnExactFormatDiagonalsWrongFalsely : Prop := fnExactFormatDiagonalsRow.holds Try.pinned (OpenSpec.ofChange fnExactFormatDiagonalsWrong)

/-- 'laws.FnIntegerEncodings': WHATEVER THE INPUT: true; the input reads as it did. -/
def fnIntegerEncodingsSpec : ChangeSpec := { name := "fnIntegerEncodings", fn := fun _ => fun
  | [d] => { results := [.lit (.bool true)], args := [d] }
  | _ => none }
def fnIntegerEncodingsRow : OpenClaim := { program := "ytndehfkamfmmeaa", sum := "d5a17fbfd59ec41cec204038227fe644f3cb2a104acdea5f05ab9a4052508a71", func := "loop.example/g03401/laws.FnIntegerEncodings", spec := "fnIntegerEncodings", apart := false }
def FnIntegerEncodingsSaid : Prop := fnIntegerEncodingsRow.holds Try.pinned (OpenSpec.ofChange fnIntegerEncodingsSpec)

/-- ITS FALSE NEIGHBOUR: 'it returns false'. Refute it at one input. -/
def fnIntegerEncodingsWrong : ChangeSpec := { name := "fnIntegerEncodings", fn := fun _ => fun
  | [d] => { results := [.lit (.bool false)], args := [d] }
  | _ => none }
def FnIntegerEncodingsWrongFalsely : Prop := fnIntegerEncodingsRow.holds Try.pinned (OpenSpec.ofChange fnIntegerEncodingsWrong)

/- THE SECOND FORM. 'bulk': how many values and letters a reading holds, each counted each time it is reached (what is shared counts as often as it is met; a slice's spare places count too). A statement '..UptoSaid' is the law's where the arguments, and the package variables that the reading takes, are together of bulk at most 1048576: NARROWER than '..Said'. Prove '..Said' where nothing that the law and all that it calls make is longer than what came in: it says more and counts as full. Else prove '..UptoSaid'. A law counts once. -/
mutual
def uptoBulk {H : Type} : DataW H → Nat
  | .lit (.string bytes) => bytes.length + 1
  | .lit _ => 1
  | .nil => 1
  | .ptr d => uptoBulk d + 1
  | .slice elems spare => uptoBulkAll elems + uptoBulkAll spare + 1
  | .agg parts => uptoBulkAll parts + 1
  | .iface _ d => uptoBulk d + 1
  | .map entries => uptoBulkEntries entries + 1
  | .held _ => 1
def uptoBulkAll {H : Type} : List (DataW H) → Nat
  | [] => 0
  | d :: r => uptoBulk d + uptoBulkAll r
def uptoBulkEntries {H : Type} : List (Lit × DataW H) → Nat
  | [] => 0
  | x :: r => uptoBulkEntry x + uptoBulkEntries r
def uptoBulkEntry {H : Type} : Lit × DataW H → Nat
  | (.string bytes, d) => bytes.length + uptoBulk d + 1
  | (_, d) => uptoBulk d + 1
 end
def uptoSmall : (H : Type) → List (DataW H) → Bool := fun _ ds => decide (uptoBulkAll ds ≤ 1048576)
def OpenSpec.upto (s : _root_.Go.ChangeSpec) : _root_.Go.OpenSpec := { _root_.Go.OpenSpec.ofChange s with cond := some uptoSmall }

/-- 'laws.FnExactIsPlane', WHERE WHAT IT READS IS OF BULK AT MOST 1048576: true; the input reads as it did. -/
def fnExactIsPlaneUptoRow : OpenClaim := { program := "ytndehfkamfmmeaa", sum := "d5a17fbfd59ec41cec204038227fe644f3cb2a104acdea5f05ab9a4052508a71", func := "loop.example/g03401/laws.FnExactIsPlane", spec := "fnExactIsPlane", apart := false, narrowed := true }
def FnExactIsPlaneUptoSaid : Prop := fnExactIsPlaneUptoRow.holds Try.pinned (OpenSpec.upto fnExactIsPlaneSpec)

/-- 'laws.FnExactChildrenOf', WHERE WHAT IT READS IS OF BULK AT MOST 1048576: true; the input reads as it did. -/
def fnExactChildrenOfUptoRow : OpenClaim := { program := "ytndehfkamfmmeaa", sum := "d5a17fbfd59ec41cec204038227fe644f3cb2a104acdea5f05ab9a4052508a71", func := "loop.example/g03401/laws.FnExactChildrenOf", spec := "fnExactChildrenOf", apart := false, narrowed := true }
def FnExactChildrenOfUptoSaid : Prop := fnExactChildrenOfUptoRow.holds Try.pinned (OpenSpec.upto fnExactChildrenOfSpec)

/-- 'laws.FnExactLeavesOf', WHERE WHAT IT READS IS OF BULK AT MOST 1048576: true; the input reads as it did. -/
def fnExactLeavesOfUptoRow : OpenClaim := { program := "ytndehfkamfmmeaa", sum := "d5a17fbfd59ec41cec204038227fe644f3cb2a104acdea5f05ab9a4052508a71", func := "loop.example/g03401/laws.FnExactLeavesOf", spec := "fnExactLeavesOf", apart := false, narrowed := true }
def FnExactLeavesOfUptoSaid : Prop := fnExactLeavesOfUptoRow.holds Try.pinned (OpenSpec.upto fnExactLeavesOfSpec)

/-- 'laws.FnExactLevelsOf', WHERE WHAT IT READS IS OF BULK AT MOST 1048576: true; the input reads as it did. -/
def fnExactLevelsOfUptoRow : OpenClaim := { program := "ytndehfkamfmmeaa", sum := "d5a17fbfd59ec41cec204038227fe644f3cb2a104acdea5f05ab9a4052508a71", func := "loop.example/g03401/laws.FnExactLevelsOf", spec := "fnExactLevelsOf", apart := false, narrowed := true }
def FnExactLevelsOfUptoSaid : Prop := fnExactLevelsOfUptoRow.holds Try.pinned (OpenSpec.upto fnExactLevelsOfSpec)

/-- 'laws.FnExactPathOfPlane', WHERE WHAT IT READS IS OF BULK AT MOST 1048576: true; the input reads as it did. -/
def fnExactPathOfPlaneUptoRow : OpenClaim := { program := "ytndehfkamfmmeaa", sum := "d5a17fbfd59ec41cec204038227fe644f3cb2a104acdea5f05ab9a4052508a71", func := "loop.example/g03401/laws.FnExactPathOfPlane", spec := "fnExactPathOfPlane", apart := false, narrowed := true }
def FnExactPathOfPlaneUptoSaid : Prop := fnExactPathOfPlaneUptoRow.holds Try.pinned (OpenSpec.upto fnExactPathOfPlaneSpec)

/-- 'laws.FnExactPlaneOf', WHERE WHAT IT READS IS OF BULK AT MOST 1048576: true; the input reads as it did. -/
def fnExactPlaneOfUptoRow : OpenClaim := { program := "ytndehfkamfmmeaa", sum := "d5a17fbfd59ec41cec204038227fe644f3cb2a104acdea5f05ab9a4052508a71", func := "loop.example/g03401/laws.FnExactPlaneOf", spec := "fnExactPlaneOf", apart := false, narrowed := true }
def FnExactPlaneOfUptoSaid : Prop := fnExactPlaneOfUptoRow.holds Try.pinned (OpenSpec.upto fnExactPlaneOfSpec)

/-- 'laws.FnExactFormatPlane', WHERE WHAT IT READS IS OF BULK AT MOST 1048576: true; the input reads as it did. -/
def fnExactFormatPlaneUptoRow : OpenClaim := { program := "ytndehfkamfmmeaa", sum := "d5a17fbfd59ec41cec204038227fe644f3cb2a104acdea5f05ab9a4052508a71", func := "loop.example/g03401/laws.FnExactFormatPlane", spec := "fnExactFormatPlane", apart := false, narrowed := true }
def FnExactFormatPlaneUptoSaid : Prop := fnExactFormatPlaneUptoRow.holds Try.pinned (OpenSpec.upto fnExactFormatPlaneSpec)

/-- 'laws.FnExactMirrorPlane', WHERE WHAT IT READS IS OF BULK AT MOST 1048576: true; the input reads as it did. -/
def fnExactMirrorPlaneUptoRow : OpenClaim := { program := "ytndehfkamfmmeaa", sum := "d5a17fbfd59ec41cec204038227fe644f3cb2a104acdea5f05ab9a4052508a71", func := "loop.example/g03401/laws.FnExactMirrorPlane", spec := "fnExactMirrorPlane", apart := false, narrowed := true }
def FnExactMirrorPlaneUptoSaid : Prop := fnExactMirrorPlaneUptoRow.holds Try.pinned (OpenSpec.upto fnExactMirrorPlaneSpec)

/-- 'laws.FnPlane', WHERE WHAT IT READS IS OF BULK AT MOST 1048576: true; the input reads as it did. -/
def fnPlaneUptoRow : OpenClaim := { program := "ytndehfkamfmmeaa", sum := "d5a17fbfd59ec41cec204038227fe644f3cb2a104acdea5f05ab9a4052508a71", func := "loop.example/g03401/laws.FnPlane", spec := "fnPlane", apart := false, narrowed := true }
def FnPlaneUptoSaid : Prop := fnPlaneUptoRow.holds Try.pinned (OpenSpec.upto fnPlaneSpec)

/-- 'laws.FnExactFormatDiagonals', WHERE WHAT IT READS IS OF BULK AT MOST 1048576: true; the input reads as it did. -/
def fnExactFormatDiagonalsUptoRow : OpenClaim := { program := "ytndehfkamfmmeaa", sum := "d5a17fbfd59ec41cec204038227fe644f3cb2a104acdea5f05ab9a4052508a71", func := "loop.example/g03401/laws.FnExactFormatDiagonals", spec := "fnExactFormatDiagonals", apart := false, narrowed := true }
def FnExactFormatDiagonalsUptoSaid : Prop := fnExactFormatDiagonalsUptoRow.holds Try.pinned (OpenSpec.upto fnExactFormatDiagonalsSpec)

/-- 'laws.FnIntegerEncodings', WHERE WHAT IT READS IS OF BULK AT MOST 1048576: true; the input reads as it did. -/
def fnIntegerEncodingsUptoRow : OpenClaim := { program := "ytndehfkamfmmeaa", sum := "d5a17fbfd59ec41cec204038227fe644f3cb2a104acdea5f05ab9a4052508a71", func := "loop.example/g03401/laws.FnIntegerEncodings", spec := "fnIntegerEncodings", apart := false, narrowed := true }
def FnIntegerEncodingsUptoSaid : Prop := fnIntegerEncodingsUptoRow.holds Try.pinned (OpenSpec.upto fnIntegerEncodingsSpec)

end Rows
end Go.Proofs.Ytndehfkamfmmeaa
