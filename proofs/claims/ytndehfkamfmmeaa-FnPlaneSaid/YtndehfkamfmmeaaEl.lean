/-
  The element types of this program's own slices: int and uint8.
-/
import Derived.Test.YtndehfkamfmmeaaRows
import Derived.Test.YtndehfkamfmmeaaKit
namespace Go.Proofs.Ytndehfkamfmmeaa
open Go.RowKit
theorem elInt : Elem Try.prog 22 3 (.int .i64 0) 8 := ⟨Try.underlying22, by kernel_rfl, rfl, by decide⟩
theorem elU8 : Elem Try.prog 37 5 (.int .u8 0) 1 := ⟨Try.underlying37, by kernel_rfl, rfl, by decide⟩
end Go.Proofs.Ytndehfkamfmmeaa
