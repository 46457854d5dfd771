/-
  No cell of these rows narrows 'for every input' (looked for: loops, veiled, ifaces, maps, wideKeys, modest, calm, conditions, laid).
  DERIVED. THE GIVEN ROWS OF THIS SEAT. 13 by the template 'for every input the law returns true; each argument reads behind the call as it read before'; 0 by the template 'total and deterministic' (their statements: YthbfockobnfomaaTotals.lean).
  GIVEN WITH THE SEED: the statements are not yours to turn. If you find one false, say at which input.
  Laid BY PROGRAM, IN A SANDBOX (cutbox-rows.mjs): the forced cells as the released guide's own fill.sh prints them over the translation d3b92101514f7c6b… (all of the seat's roots in one cut). By AI agents, Wed Nov 11 2026. No macro, syntax, notation, axiom, sorry.
-/
import Derived.Test.YthbfockobnfomaaChecked
import GoSem.Claim
import GoSem.ClaimJoined
import GoSem.ClaimMapViews
import Derived.JoinedTies
import Derived.KernelRfl
namespace Go.Proofs.Ythbfockobnfomaa
/- THE CELL 'sum', in the pinned program and in every row, IS THE sha256 OF THE DUMP (.gsa) THAT YthbfockobnfomaaProg.lean LOADS. Nothing in Lean hashes anything: it is a label: what it is worth is what the hold of that sum in a sandbox is worth. -/
noncomputable def Try.pinned : Pinned := { name := "ythbfockobnfomaa", sum := "d3b92101514f7c6b87ddf296970928a34350c72be2ce8c424609969915458d79", checked := Try.checked }
namespace Rows
def none {H : Type} : Left H := { results := [], args := [] }

/-- 'laws.FnExactIsBinary': WHATEVER THE INPUT: true; the input reads as it did. -/
def fnExactIsBinarySpec : ChangeSpec := { name := "fnExactIsBinary", fn := fun _ => fun
  | [d] => { results := [.lit (.bool true)], args := [d] }
  | _ => none }
def fnExactIsBinaryRow : OpenClaim := { program := "ythbfockobnfomaa", sum := "d3b92101514f7c6b87ddf296970928a34350c72be2ce8c424609969915458d79", func := "loop.example/g03401/laws.FnExactIsBinary", spec := "fnExactIsBinary", recurses := true, apart := false }
def FnExactIsBinarySaid : Prop := fnExactIsBinaryRow.holds Try.pinned (OpenSpec.ofChange fnExactIsBinarySpec)

/-- ITS FALSE NEIGHBOUR: 'it returns false'. Refute it at one input. -/
def fnExactIsBinaryWrong : ChangeSpec := { name := "fnExactIsBinary", fn := fun _ => fun
  | [d] => { results := [.lit (.bool false)], args := [d] }
  | _ => none }
def FnExactIsBinaryWrongFalsely : Prop := fnExactIsBinaryRow.holds Try.pinned (OpenSpec.ofChange fnExactIsBinaryWrong)

/-- 'laws.FnExactNodesOf': WHATEVER THE INPUT: true; the input reads as it did. -/
def fnExactNodesOfSpec : ChangeSpec := { name := "fnExactNodesOf", fn := fun _ => fun
  | [d] => { results := [.lit (.bool true)], args := [d] }
  | _ => none }
def fnExactNodesOfRow : OpenClaim := { program := "ythbfockobnfomaa", sum := "d3b92101514f7c6b87ddf296970928a34350c72be2ce8c424609969915458d79", func := "loop.example/g03401/laws.FnExactNodesOf", spec := "fnExactNodesOf", recurses := true, apart := false }
def FnExactNodesOfSaid : Prop := fnExactNodesOfRow.holds Try.pinned (OpenSpec.ofChange fnExactNodesOfSpec)

/-- ITS FALSE NEIGHBOUR: 'it returns false'. Refute it at one input. -/
def fnExactNodesOfWrong : ChangeSpec := { name := "fnExactNodesOf", fn := fun _ => fun
  | [d] => { results := [.lit (.bool false)], args := [d] }
  | _ => none }
def FnExactNodesOfWrongFalsely : Prop := fnExactNodesOfRow.holds Try.pinned (OpenSpec.ofChange fnExactNodesOfWrong)

/-- 'laws.FnExactPartsOfBinary': WHATEVER THE INPUT: true; the input reads as it did. -/
def fnExactPartsOfBinarySpec : ChangeSpec := { name := "fnExactPartsOfBinary", fn := fun _ => fun
  | [d] => { results := [.lit (.bool true)], args := [d] }
  | _ => none }
def fnExactPartsOfBinaryRow : OpenClaim := { program := "ythbfockobnfomaa", sum := "d3b92101514f7c6b87ddf296970928a34350c72be2ce8c424609969915458d79", func := "loop.example/g03401/laws.FnExactPartsOfBinary", spec := "fnExactPartsOfBinary", recurses := true, apart := false }
def FnExactPartsOfBinarySaid : Prop := fnExactPartsOfBinaryRow.holds Try.pinned (OpenSpec.ofChange fnExactPartsOfBinarySpec)

/-- ITS FALSE NEIGHBOUR: 'it returns false'. Refute it at one input. -/
def fnExactPartsOfBinaryWrong : ChangeSpec := { name := "fnExactPartsOfBinary", fn := fun _ => fun
  | [d] => { results := [.lit (.bool false)], args := [d] }
  | _ => none }
def FnExactPartsOfBinaryWrongFalsely : Prop := fnExactPartsOfBinaryRow.holds Try.pinned (OpenSpec.ofChange fnExactPartsOfBinaryWrong)

/-- 'laws.FnExactBinaryOfLevels': WHATEVER THE INPUT: true; the input reads as it did. -/
def fnExactBinaryOfLevelsSpec : ChangeSpec := { name := "fnExactBinaryOfLevels", fn := fun _ => fun
  | [d] => { results := [.lit (.bool true)], args := [d] }
  | _ => none }
def fnExactBinaryOfLevelsRow : OpenClaim := { program := "ythbfockobnfomaa", sum := "d3b92101514f7c6b87ddf296970928a34350c72be2ce8c424609969915458d79", func := "loop.example/g03401/laws.FnExactBinaryOfLevels", spec := "fnExactBinaryOfLevels", recurses := true, apart := false }
def FnExactBinaryOfLevelsSaid : Prop := fnExactBinaryOfLevelsRow.holds Try.pinned (OpenSpec.ofChange fnExactBinaryOfLevelsSpec)

/-- ITS FALSE NEIGHBOUR: 'it returns false'. Refute it at one input. -/
def fnExactBinaryOfLevelsWrong : ChangeSpec := { name := "fnExactBinaryOfLevels", fn := fun _ => fun
  | [d] => { results := [.lit (.bool false)], args := [d] }
  | _ => none }
def FnExactBinaryOfLevelsWrongFalsely : Prop := fnExactBinaryOfLevelsRow.holds Try.pinned (OpenSpec.ofChange fnExactBinaryOfLevelsWrong)

/-- 'laws.FnExactPathOfBinary': WHATEVER THE INPUT: true; the input reads as it did. -/
def fnExactPathOfBinarySpec : ChangeSpec := { name := "fnExactPathOfBinary", fn := fun _ => fun
  | [d] => { results := [.lit (.bool true)], args := [d] }
  | _ => none }
def fnExactPathOfBinaryRow : OpenClaim := { program := "ythbfockobnfomaa", sum := "d3b92101514f7c6b87ddf296970928a34350c72be2ce8c424609969915458d79", func := "loop.example/g03401/laws.FnExactPathOfBinary", spec := "fnExactPathOfBinary", recurses := true, apart := false }
def FnExactPathOfBinarySaid : Prop := fnExactPathOfBinaryRow.holds Try.pinned (OpenSpec.ofChange fnExactPathOfBinarySpec)

/-- ITS FALSE NEIGHBOUR: 'it returns false'. Refute it at one input. -/
def fnExactPathOfBinaryWrong : ChangeSpec := { name := "fnExactPathOfBinary", fn := fun _ => fun
  | [d] => { results := [.lit (.bool false)], args := [d] }
  | _ => none }
def FnExactPathOfBinaryWrongFalsely : Prop := fnExactPathOfBinaryRow.holds Try.pinned (OpenSpec.ofChange fnExactPathOfBinaryWrong)

/-- 'laws.FnExactMirrorBinary': WHATEVER THE INPUT: true; the input reads as it did. -/
def fnExactMirrorBinarySpec : ChangeSpec := { name := "fnExactMirrorBinary", fn := fun _ => fun
  | [d] => { results := [.lit (.bool true)], args := [d] }
  | _ => none }
def fnExactMirrorBinaryRow : OpenClaim := { program := "ythbfockobnfomaa", sum := "d3b92101514f7c6b87ddf296970928a34350c72be2ce8c424609969915458d79", func := "loop.example/g03401/laws.FnExactMirrorBinary", spec := "fnExactMirrorBinary", recurses := true, apart := false }
def FnExactMirrorBinarySaid : Prop := fnExactMirrorBinaryRow.holds Try.pinned (OpenSpec.ofChange fnExactMirrorBinarySpec)

/-- ITS FALSE NEIGHBOUR: 'it returns false'. Refute it at one input. -/
def fnExactMirrorBinaryWrong : ChangeSpec := { name := "fnExactMirrorBinary", fn := fun _ => fun
  | [d] => { results := [.lit (.bool false)], args := [d] }
  | _ => none }
def FnExactMirrorBinaryWrongFalsely : Prop := fnExactMirrorBinaryRow.holds Try.pinned (OpenSpec.ofChange fnExactMirrorBinaryWrong)

/-- 'laws.FnExactBinaryOf': WHATEVER THE INPUT: true; the input reads as it did. -/
def fnExactBinaryOfSpec : ChangeSpec := { name := "fnExactBinaryOf", fn := fun _ => fun
  | [d] => { results := [.lit (.bool true)], args := [d] }
  | _ => none }
def fnExactBinaryOfRow : OpenClaim := { program := "ythbfockobnfomaa", sum := "d3b92101514f7c6b87ddf296970928a34350c72be2ce8c424609969915458d79", func := "loop.example/g03401/laws.FnExactBinaryOf", spec := "fnExactBinaryOf", recurses := true, apart := false }
def FnExactBinaryOfSaid : Prop := fnExactBinaryOfRow.holds Try.pinned (OpenSpec.ofChange fnExactBinaryOfSpec)

/-- ITS FALSE NEIGHBOUR: 'it returns false'. Refute it at one input. -/
def fnExactBinaryOfWrong : ChangeSpec := { name := "fnExactBinaryOf", fn := fun _ => fun
  | [d] => { results := [.lit (.bool false)], args := [d] }
  | _ => none }
def FnExactBinaryOfWrongFalsely : Prop := fnExactBinaryOfRow.holds Try.pinned (OpenSpec.ofChange fnExactBinaryOfWrong)

/-- 'laws.FnExactHeightOf': WHATEVER THE INPUT: true; the input reads as it did. -/
def fnExactHeightOfSpec : ChangeSpec := { name := "fnExactHeightOf", fn := fun _ => fun
  | [d] => { results := [.lit (.bool true)], args := [d] }
  | _ => none }
def fnExactHeightOfRow : OpenClaim := { program := "ythbfockobnfomaa", sum := "d3b92101514f7c6b87ddf296970928a34350c72be2ce8c424609969915458d79", func := "loop.example/g03401/laws.FnExactHeightOf", spec := "fnExactHeightOf", recurses := true, apart := false }
def FnExactHeightOfSaid : Prop := fnExactHeightOfRow.holds Try.pinned (OpenSpec.ofChange fnExactHeightOfSpec)

/-- ITS FALSE NEIGHBOUR: 'it returns false'. Refute it at one input. -/
def fnExactHeightOfWrong : ChangeSpec := { name := "fnExactHeightOf", fn := fun _ => fun
  | [d] => { results := [.lit (.bool false)], args := [d] }
  | _ => none }
def FnExactHeightOfWrongFalsely : Prop := fnExactHeightOfRow.holds Try.pinned (OpenSpec.ofChange fnExactHeightOfWrong)

/-- 'laws.FnExactLeafLevels': WHATEVER THE INPUT: true; the input reads as it did. -/
def fnExactLeafLevelsSpec : ChangeSpec := { name := "fnExactLeafLevels", fn := fun _ => fun
  | [d] => { results := [.lit (.bool true)], args := [d] }
  | _ => none }
def fnExactLeafLevelsRow : OpenClaim := { program := "ythbfockobnfomaa", sum := "d3b92101514f7c6b87ddf296970928a34350c72be2ce8c424609969915458d79", func := "loop.example/g03401/laws.FnExactLeafLevels", spec := "fnExactLeafLevels", recurses := true, apart := false }
def FnExactLeafLevelsSaid : Prop := fnExactLeafLevelsRow.holds Try.pinned (OpenSpec.ofChange fnExactLeafLevelsSpec)

/-- ITS FALSE NEIGHBOUR: 'it returns false'. Refute it at one input. -/
def fnExactLeafLevelsWrong : ChangeSpec := { name := "fnExactLeafLevels", fn := fun _ => fun
  | [d] => { results := [.lit (.bool false)], args := [d] }
  | _ => none }
def FnExactLeafLevelsWrongFalsely : Prop := fnExactLeafLevelsRow.holds Try.pinned (OpenSpec.ofChange fnExactLeafLevelsWrong)

/-- 'laws.FnBinary': WHATEVER THE INPUT: true; the input reads as it did. -/
def fnBinarySpec : ChangeSpec := { name := "fnBinary", fn := fun _ => fun
  | [d] => { results := [.lit (.bool true)], args := [d] }
  | _ => none }
def fnBinaryRow : OpenClaim := { program := "ythbfockobnfomaa", sum := "d3b92101514f7c6b87ddf296970928a34350c72be2ce8c424609969915458d79", func := "loop.example/g03401/laws.FnBinary", spec := "fnBinary", recurses := true, apart := false }
def FnBinarySaid : Prop := fnBinaryRow.holds Try.pinned (OpenSpec.ofChange fnBinarySpec)

/-- ITS FALSE NEIGHBOUR: 'it returns false'. Refute it at one input. -/
def fnBinaryWrong : ChangeSpec := { name := "fnBinary", fn := fun _ => fun
  | [d] => { results := [.lit (.bool false)], args := [d] }
  | _ => none }
def FnBinaryWrongFalsely : Prop := fnBinaryRow.holds Try.pinned (OpenSpec.ofChange fnBinaryWrong)

/-- 'laws.FnExactIsTriangulation': WHATEVER THE INPUT: true; the input reads as it did. -/
def fnExactIsTriangulationSpec : ChangeSpec := { name := "fnExactIsTriangulation", fn := fun _ => fun
  | [d1, d2] => { results := [.lit (.bool true)], args := [d1, d2] }
  | _ => none }
def fnExactIsTriangulationRow : OpenClaim := { program := "ythbfockobnfomaa", sum := "d3b92101514f7c6b87ddf296970928a34350c72be2ce8c424609969915458d79", func := "loop.example/g03401/laws.FnExactIsTriangulation", spec := "fnExactIsTriangulation", apart := false }
def FnExactIsTriangulationSaid : Prop := fnExactIsTriangulationRow.holds Try.pinned (OpenSpec.ofChange fnExactIsTriangulationSpec)

/-- ITS FALSE NEIGHBOUR: 'it returns false'. Refute it at one input. -/
def fnExactIsTriangulationWrong : ChangeSpec := { name := "fnExactIsTriangulation", fn := fun _ => fun
  | [d1, d2] => { results := [.lit (.bool false)], args := [d1, d2] }
  | _ => none }
def FnExactIsTriangulationWrongFalsely : Prop := fnExactIsTriangulationRow.holds Try.pinned (OpenSpec.ofChange fnExactIsTriangulationWrong)

/-- 'laws.FnExactEarsOf': WHATEVER THE INPUT: true; the input reads as it did. -/
def fnExactEarsOfSpec : ChangeSpec := { name := "fnExactEarsOf", fn := fun _ => fun
  | [d1, d2] => { results := [.lit (.bool true)], args := [d1, d2] }
  | _ => none }
def fnExactEarsOfRow : OpenClaim := { program := "ythbfockobnfomaa", sum := "d3b92101514f7c6b87ddf296970928a34350c72be2ce8c424609969915458d79", func := "loop.example/g03401/laws.FnExactEarsOf", spec := "fnExactEarsOf", apart := false }
def FnExactEarsOfSaid : Prop := fnExactEarsOfRow.holds Try.pinned (OpenSpec.ofChange fnExactEarsOfSpec)

/-- ITS FALSE NEIGHBOUR: 'it returns false'. Refute it at one input. -/
def fnExactEarsOfWrong : ChangeSpec := { name := "fnExactEarsOf", fn := fun _ => fun
  | [d1, d2] => { results := [.lit (.bool false)], args := [d1, d2] }
  | _ => none }
def FnExactEarsOfWrongFalsely : Prop := fnExactEarsOfRow.holds Try.pinned (OpenSpec.ofChange fnExactEarsOfWrong)

/-- 'laws.FnExactBinaryOfTriangles': WHATEVER THE INPUT: true; the input reads as it did. -/
def fnExactBinaryOfTrianglesSpec : ChangeSpec := { name := "fnExactBinaryOfTriangles", fn := fun _ => fun
  | [d1, d2] => { results := [.lit (.bool true)], args := [d1, d2] }
  | _ => none }
def fnExactBinaryOfTrianglesRow : OpenClaim := { program := "ythbfockobnfomaa", sum := "d3b92101514f7c6b87ddf296970928a34350c72be2ce8c424609969915458d79", func := "loop.example/g03401/laws.FnExactBinaryOfTriangles", spec := "fnExactBinaryOfTriangles", unfollowed := true, recurses := true, apart := false }
def FnExactBinaryOfTrianglesSaid : Prop := fnExactBinaryOfTrianglesRow.holds Try.pinned (OpenSpec.ofChange fnExactBinaryOfTrianglesSpec)

/-- ITS FALSE NEIGHBOUR: 'it returns false'. Refute it at one input. -/
def fnExactBinaryOfTrianglesWrong : ChangeSpec := { name := "fnExactBinaryOfTriangles", fn := fun _ => fun
  | [d1, d2] => { results := [.lit (.bool false)], args := [d1, d2] }
  | _ => none }
def FnExactBinaryOfTrianglesWrongFalsely : Prop := fnExactBinaryOfTrianglesRow.holds Try.pinned (OpenSpec.ofChange fnExactBinaryOfTrianglesWrong)

/- THE SECOND FORM. 'bulk': how many values and letters a reading holds, each counted each time it is reached (what is shared counts as often as it is met; a slice's spare places count too). A statement '..UptoSaid' is the law's where the arguments, and the package variables that the reading takes, are together of bulk at most 1048576: NARROWER than '..Said'. Prove '..Said' where nothing that the law and all that it calls make is longer than what came in: it says more and counts as full. Else prove '..UptoSaid'. A law counts once. -/
mutual
def uptoBulk {H : Type} : DataW H → Nat
  | .lit (.string bytes) => bytes.length + 1
  | .lit _ => 1
  | .nil => 1
  | .ptr d => uptoBulk d + 1
  | .slice elems spare => uptoBulkAll elems + uptoBulkAll spare + 1
  | .agg parts => uptoBulkAll parts + 1
  | .iface _ d => uptoBulk d + 1
  | .map entries => uptoBulkEntries entries + 1
  | .held _ => 1
def uptoBulkAll {H : Type} : List (DataW H) → Nat
  | [] => 0
  | d :: r => uptoBulk d + uptoBulkAll r
def uptoBulkEntries {H : Type} : List (Lit × DataW H) → Nat
  | [] => 0
  | x :: r => uptoBulkEntry x + uptoBulkEntries r
def uptoBulkEntry {H : Type} : Lit × DataW H → Nat
  | (.string bytes, d) => bytes.length + uptoBulk d + 1
  | (_, d) => uptoBulk d + 1
 end
def uptoSmall : (H : Type) → List (DataW H) → Bool := fun _ ds => decide (uptoBulkAll ds ≤ 1048576)
def OpenSpec.upto (s : _root_.Go.ChangeSpec) : _root_.Go.OpenSpec := { _root_.Go.OpenSpec.ofChange s with cond := some uptoSmall }

/-- 'laws.FnExactIsBinary', WHERE WHAT IT READS IS OF BULK AT MOST 1048576: true; the input reads as it did. -/
def fnExactIsBinaryUptoRow : OpenClaim := { program := "ythbfockobnfomaa", sum := "d3b92101514f7c6b87ddf296970928a34350c72be2ce8c424609969915458d79", func := "loop.example/g03401/laws.FnExactIsBinary", spec := "fnExactIsBinary", recurses := true, apart := false, narrowed := true }
def FnExactIsBinaryUptoSaid : Prop := fnExactIsBinaryUptoRow.holds Try.pinned (OpenSpec.upto fnExactIsBinarySpec)

/-- 'laws.FnExactNodesOf', WHERE WHAT IT READS IS OF BULK AT MOST 1048576: true; the input reads as it did. -/
def fnExactNodesOfUptoRow : OpenClaim := { program := "ythbfockobnfomaa", sum := "d3b92101514f7c6b87ddf296970928a34350c72be2ce8c424609969915458d79", func := "loop.example/g03401/laws.FnExactNodesOf", spec := "fnExactNodesOf", recurses := true, apart := false, narrowed := true }
def FnExactNodesOfUptoSaid : Prop := fnExactNodesOfUptoRow.holds Try.pinned (OpenSpec.upto fnExactNodesOfSpec)

/-- 'laws.FnExactPartsOfBinary', WHERE WHAT IT READS IS OF BULK AT MOST 1048576: true; the input reads as it did. -/
def fnExactPartsOfBinaryUptoRow : OpenClaim := { program := "ythbfockobnfomaa", sum := "d3b92101514f7c6b87ddf296970928a34350c72be2ce8c424609969915458d79", func := "loop.example/g03401/laws.FnExactPartsOfBinary", spec := "fnExactPartsOfBinary", recurses := true, apart := false, narrowed := true }
def FnExactPartsOfBinaryUptoSaid : Prop := fnExactPartsOfBinaryUptoRow.holds Try.pinned (OpenSpec.upto fnExactPartsOfBinarySpec)

/-- 'laws.FnExactBinaryOfLevels', WHERE WHAT IT READS IS OF BULK AT MOST 1048576: true; the input reads as it did. -/
def fnExactBinaryOfLevelsUptoRow : OpenClaim := { program := "ythbfockobnfomaa", sum := "d3b92101514f7c6b87ddf296970928a34350c72be2ce8c424609969915458d79", func := "loop.example/g03401/laws.FnExactBinaryOfLevels", spec := "fnExactBinaryOfLevels", recurses := true, apart := false, narrowed := true }
def FnExactBinaryOfLevelsUptoSaid : Prop := fnExactBinaryOfLevelsUptoRow.holds Try.pinned (OpenSpec.upto fnExactBinaryOfLevelsSpec)

/-- 'laws.FnExactPathOfBinary', WHERE WHAT IT READS IS OF BULK AT MOST 1048576: true; the input reads as it did. -/
def fnExactPathOfBinaryUptoRow : OpenClaim := { program := "ythbfockobnfomaa", sum := "d3b92101514f7c6b87ddf296970928a34350c72be2ce8c424609969915458d79", func := "loop.example/g03401/laws.FnExactPathOfBinary", spec := "fnExactPathOfBinary", recurses := true, apart := false, narrowed := true }
def FnExactPathOfBinaryUptoSaid : Prop := fnExactPathOfBinaryUptoRow.holds Try.pinned (OpenSpec.upto fnExactPathOfBinarySpec)

/-- 'laws.FnExactMirrorBinary', WHERE WHAT IT READS IS OF BULK AT MOST 1048576: true; the input reads as it did. -/
def fnExactMirrorBinaryUptoRow : OpenClaim := { program := "ythbfockobnfomaa", sum := "d3b92101514f7c6b87ddf296970928a34350c72be2ce8c424609969915458d79", func := "loop.example/g03401/laws.FnExactMirrorBinary", spec := "fnExactMirrorBinary", recurses := true, apart := false, narrowed := true }
def FnExactMirrorBinaryUptoSaid : Prop := fnExactMirrorBinaryUptoRow.holds Try.pinned (OpenSpec.upto fnExactMirrorBinarySpec)

/-- 'laws.FnExactBinaryOf', WHERE WHAT IT READS IS OF BULK AT MOST 1048576: true; the input reads as it did. -/
def fnExactBinaryOfUptoRow : OpenClaim := { program := "ythbfockobnfomaa", sum := "d3b92101514f7c6b87ddf296970928a34350c72be2ce8c424609969915458d79", func := "loop.example/g03401/laws.FnExactBinaryOf", spec := "fnExactBinaryOf", recurses := true, apart := false, narrowed := true }
def FnExactBinaryOfUptoSaid : Prop := fnExactBinaryOfUptoRow.holds Try.pinned (OpenSpec.upto fnExactBinaryOfSpec)

/-- 'laws.FnExactHeightOf', WHERE WHAT IT READS IS OF BULK AT MOST 1048576: true; the input reads as it did. -/
def fnExactHeightOfUptoRow : OpenClaim := { program := "ythbfockobnfomaa", sum := "d3b92101514f7c6b87ddf296970928a34350c72be2ce8c424609969915458d79", func := "loop.example/g03401/laws.FnExactHeightOf", spec := "fnExactHeightOf", recurses := true, apart := false, narrowed := true }
def FnExactHeightOfUptoSaid : Prop := fnExactHeightOfUptoRow.holds Try.pinned (OpenSpec.upto fnExactHeightOfSpec)

/-- 'laws.FnExactLeafLevels', WHERE WHAT IT READS IS OF BULK AT MOST 1048576: true; the input reads as it did. -/
def fnExactLeafLevelsUptoRow : OpenClaim := { program := "ythbfockobnfomaa", sum := "d3b92101514f7c6b87ddf296970928a34350c72be2ce8c424609969915458d79", func := "loop.example/g03401/laws.FnExactLeafLevels", spec := "fnExactLeafLevels", recurses := true, apart := false, narrowed := true }
def FnExactLeafLevelsUptoSaid : Prop := fnExactLeafLevelsUptoRow.holds Try.pinned (OpenSpec.upto fnExactLeafLevelsSpec)

/-- 'laws.FnBinary', WHERE WHAT IT READS IS OF BULK AT MOST 1048576: true; the input reads as it did. -/
def fnBinaryUptoRow : OpenClaim := { program := "ythbfockobnfomaa", sum := "d3b92101514f7c6b87ddf296970928a34350c72be2ce8c424609969915458d79", func := "loop.example/g03401/laws.FnBinary", spec := "fnBinary", recurses := true, apart := false, narrowed := true }
def FnBinaryUptoSaid : Prop := fnBinaryUptoRow.holds Try.pinned (OpenSpec.upto fnBinarySpec)

/-- 'laws.FnExactIsTriangulation', WHERE WHAT IT READS IS OF BULK AT MOST 1048576: true; the input reads as it did. -/
def fnExactIsTriangulationUptoRow : OpenClaim := { program := "ythbfockobnfomaa", sum := "d3b92101514f7c6b87ddf296970928a34350c72be2ce8c424609969915458d79", func := "loop.example/g03401/laws.FnExactIsTriangulation", spec := "fnExactIsTriangulation", apart := false, narrowed := true }
def FnExactIsTriangulationUptoSaid : Prop := fnExactIsTriangulationUptoRow.holds Try.pinned (OpenSpec.upto fnExactIsTriangulationSpec)

/-- 'laws.FnExactEarsOf', WHERE WHAT IT READS IS OF BULK AT MOST 1048576: true; the input reads as it did. -/
def fnExactEarsOfUptoRow : OpenClaim := { program := "ythbfockobnfomaa", sum := "d3b92101514f7c6b87ddf296970928a34350c72be2ce8c424609969915458d79", func := "loop.example/g03401/laws.FnExactEarsOf", spec := "fnExactEarsOf", apart := false, narrowed := true }
def FnExactEarsOfUptoSaid : Prop := fnExactEarsOfUptoRow.holds Try.pinned (OpenSpec.upto fnExactEarsOfSpec)

/-- 'laws.FnExactBinaryOfTriangles', WHERE WHAT IT READS IS OF BULK AT MOST 1048576: true; the input reads as it did. -/
def fnExactBinaryOfTrianglesUptoRow : OpenClaim := { program := "ythbfockobnfomaa", sum := "d3b92101514f7c6b87ddf296970928a34350c72be2ce8c424609969915458d79", func := "loop.example/g03401/laws.FnExactBinaryOfTriangles", spec := "fnExactBinaryOfTriangles", unfollowed := true, recurses := true, apart := false, narrowed := true }
def FnExactBinaryOfTrianglesUptoSaid : Prop := fnExactBinaryOfTrianglesUptoRow.holds Try.pinned (OpenSpec.upto fnExactBinaryOfTrianglesSpec)

end Rows
end Go.Proofs.Ythbfockobnfomaa
