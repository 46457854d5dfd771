/-
  What the last step of every law of this seat needs: facts on the program as a whole; a slice of numbers that came in.
-/
import Derived.Test.YtfpdkjoimmociaaRows
import Derived.Test.YtfpdkjoimmociaaKit
import Derived.OpenShut
import Derived.ShutString
import Derived.ChangeOld
namespace Go.Proofs.Ytfpdkjoimmociaa
open Go.ChangeShapes Go.WideShapes Go.ChangeAt Go.RowKit
theorem own : ownKnob Try.prog.godebug = none := by kernel_rfl
theorem laidOut : laidOutB Try.prog = true := by kernel_rfl
end Go.Proofs.Ytfpdkjoimmociaa
