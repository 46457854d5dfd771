/-
  BallotNumber and CatalanNumber of both packages and their laws, walked.
-/
import Derived.Test.YtfpdkjoimmociaaBalS
namespace Go.Proofs.Ytfpdkjoimmociaa
open Go.RowKit
theorem catI_no (n : Int) (w : World) (h : n < 0 ∨ 15 < n) : Calls Try.prog 95 #[.int .i64 n] w fun e w' => e = .returned (.int .i64 (-1)) ∧ Below w.heap.size w w' := by
  go_enter Try.func95, Try.ntmps95
  go_wp2_with (go_at_call 91; refine (within_no _ _ _ _ h).mono ?_; rintro e w' ⟨rfl, rfl⟩)
  go_ret
  exact ⟨rfl, Below.refl _ _⟩
theorem catI_yes (n : Nat) (w : World) (h : n ≤ 15) : Calls Try.prog 95 #[.int .i64 n] w fun e w' => e = .returned (.int .i64 (balV n n)) ∧ Below w.heap.size w w' := by
  go_enter Try.func95, Try.ntmps95
  go_wp2_with (first | (go_at_call 91; refine (within_yes _ _ _ _ (by omega) (by omega)).mono ?_; rintro e w' ⟨rfl, rfl⟩) | (go_at_call 96; refine (ballotI_yes n n _ (Nat.le_refl _) h).mono ?_; rintro e w' ⟨rfl, hb⟩))
  go_ret
  exact ⟨rfl, hb⟩
theorem catS_no (n : Int) (w : World) (h : n < 0 ∨ 15 < n) : Calls Try.prog 93 #[.int .i64 n] w fun e w' => e = .returned (.int .i64 (-1)) ∧ Below w.heap.size w w' := by
  go_enter Try.func93, Try.ntmps93
  go_wp2_with (go_at_call 81; refine (in_no _ _ _ _ h).mono ?_; rintro e w' ⟨rfl, rfl⟩)
  go_ret
  exact ⟨rfl, Below.refl _ _⟩
theorem catS_yes (n : Nat) (w : World) (h : n ≤ 15) : Calls Try.prog 93 #[.int .i64 n] w fun e w' => e = .returned (.int .i64 (balV n n)) ∧ Below w.heap.size w w' := by
  go_enter Try.func93, Try.ntmps93
  go_wp2_with (first | (go_at_call 81; refine (in_yes _ _ _ _ (by omega) (by omega)).mono ?_; rintro e w' ⟨rfl, rfl⟩) | (go_at_call 94; refine (waysS n n _ (Nat.le_refl _) h).mono ?_; rintro e w' ⟨rfl, hb⟩))
  go_ret
  exact ⟨rfl, hb⟩
end Go.Proofs.Ytfpdkjoimmociaa
