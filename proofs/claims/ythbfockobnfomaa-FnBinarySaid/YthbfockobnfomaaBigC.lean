/-
  laws.big, walked.
-/
import Derived.Test.YthbfockobnfomaaIntArg
import Derived.Test.YthbfockobnfomaaDraw3
namespace Go.Proofs.Ythbfockobnfomaa
open Go.RowKit
set_option maxRecDepth 100000 in
theorem bigC (A : Option Addr) (n c : Nat) (w : World) : Calls Try.prog 38 #[.slice A n c] w fun e w' => e = .returned (.bool (decide (1048576 < n))) ∧ w = w' := by
  by_cases h : 1048576 < n
  · have h1 : (1048576 : Int) < (n : Int) := by omega
    rw [decide_eq_true h]
    go_enter Try.func38, Try.ntmps38
    go_wp2_with fail
    go_ret
    exact ⟨rfl, rfl⟩
  · have h1 : ¬ (1048576 : Int) < (n : Int) := by omega
    rw [decide_eq_false h]
    go_enter Try.func38, Try.ntmps38
    go_wp2_with fail
    go_ret
    exact ⟨rfl, rfl⟩
end Go.Proofs.Ythbfockobnfomaa
