/-
  laws.FnExactConstants, walked: it compares constants alone.
-/
import Derived.Test.YtlnighefombnjaaRows
import Derived.Test.YtlnighefombnjaaKit
namespace Go.Proofs.Ytlnighefombnjaa
open Go.RowKit
theorem law_constants (w : World) : Calls Try.prog 3 #[] w fun e w' => e = .returned (.bool true) ∧ Below w.heap.size w w' := by
  go_enter Try.func3, Try.ntmps3
  go_wp2
  go_ret
  exact ⟨rfl, Below.refl _ _⟩
end Go.Proofs.Ytlnighefombnjaa
