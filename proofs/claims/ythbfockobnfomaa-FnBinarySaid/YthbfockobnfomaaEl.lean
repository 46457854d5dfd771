/-
  The element types of this program's own slices: int and uint8.
-/
import Derived.Test.YthbfockobnfomaaRows
import Derived.Test.YthbfockobnfomaaKit
namespace Go.Proofs.Ythbfockobnfomaa
open Go.RowKit
theorem elInt : Elem Try.prog 26 3 (.int .i64 0) 8 := ⟨Try.underlying26, by kernel_rfl, rfl, by decide⟩
theorem elU8 : Elem Try.prog 35 5 (.int .u8 0) 1 := ⟨Try.underlying35, by kernel_rfl, rfl, by decide⟩
end Go.Proofs.Ythbfockobnfomaa
