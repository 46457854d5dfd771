/-
  The element types of this program's own slices: int and uint8.
-/
import Derived.Test.YtmjnafpjfodbdaaRows
import Derived.Test.YtmjnafpjfodbdaaKit
namespace Go.Proofs.Ytmjnafpjfodbdaa
open Go.RowKit
theorem elInt : Elem Try.prog 22 3 (.int .i64 0) 8 := ⟨Try.underlying22, by kernel_rfl, rfl, by decide⟩
theorem elU8 : Elem Try.prog 33 5 (.int .u8 0) 1 := ⟨Try.underlying33, by kernel_rfl, rfl, by decide⟩
end Go.Proofs.Ytmjnafpjfodbdaa
