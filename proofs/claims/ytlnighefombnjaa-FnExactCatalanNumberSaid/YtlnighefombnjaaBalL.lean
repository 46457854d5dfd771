/-
  BallotNumber and CatalanNumber of both packages and their laws, walked.
-/
import Derived.Test.YtlnighefombnjaaBalS
namespace Go.Proofs.Ytlnighefombnjaa
open Go.RowKit
theorem ballotS_no (up down : Int) (w : World) (h : up < 0 ∨ 15 < up ∨ down < up ∨ 15 < down) : Calls Try.prog 33 #[.int .i64 up, .int .i64 down] w fun e w' => e = .returned (.int .i64 0) ∧ Below w.heap.size w w' := by
  by_cases h1 : up < 0 ∨ 15 < up
  · clear h
    go_enter Try.func33, Try.ntmps33
    go_wp2_with (go_at_call 38; refine (in_no _ _ _ _ h1).mono ?_; rintro e w' ⟨rfl, rfl⟩)
    go_ret
    exact ⟨rfl, Below.refl _ _⟩
  · have h2 : down < up ∨ 15 < down := by omega
    have h3 : 0 ≤ up := by omega
    have h4 : up ≤ 15 := by omega
    clear h h1
    go_enter Try.func33, Try.ntmps33
    go_wp2_with fail
    refine (in_yes _ _ _ _ h3 h4).mono ?_
    rintro e w' ⟨rfl, rfl⟩
    go_wp2_with fail
    refine (in_no _ _ _ _ h2).mono ?_
    rintro e w' ⟨rfl, rfl⟩
    clear h2
    go_wp2_with fail
    go_ret
    exact ⟨rfl, Below.refl _ _⟩
theorem ballotS_yes (up D : Nat) (w : World) (h1 : up ≤ D) (h2 : D ≤ 15) : Calls Try.prog 33 #[.int .i64 up, .int .i64 D] w fun e w' => e = .returned (.int .i64 (balV up D)) ∧ Below w.heap.size w w' := by
  go_enter Try.func33, Try.ntmps33
  go_wp2_with (first | (go_at_call 38; refine (in_yes _ _ _ _ (by omega) (by omega)).mono ?_; rintro e w' ⟨rfl, rfl⟩) | (go_at_call 44; refine (waysS up D _ h1 h2).mono ?_; rintro e w' ⟨rfl, hb⟩))
  go_ret
  exact ⟨rfl, hb⟩
theorem catI_no (n : Int) (w : World) (h : n < 0 ∨ 15 < n) : Calls Try.prog 36 #[.int .i64 n] w fun e w' => e = .returned (.int .i64 (-1)) ∧ Below w.heap.size w w' := by
  go_enter Try.func36, Try.ntmps36
  go_wp2_with (go_at_call 39; refine (within_no _ _ _ _ h).mono ?_; rintro e w' ⟨rfl, rfl⟩)
  go_ret
  exact ⟨rfl, Below.refl _ _⟩
theorem catI_yes (n : Nat) (w : World) (h : n ≤ 15) : Calls Try.prog 36 #[.int .i64 n] w fun e w' => e = .returned (.int .i64 (balV n n)) ∧ Below w.heap.size w w' := by
  go_enter Try.func36, Try.ntmps36
  go_wp2_with (first | (go_at_call 39; refine (within_yes _ _ _ _ (by omega) (by omega)).mono ?_; rintro e w' ⟨rfl, rfl⟩) | (go_at_call 34; refine (ballotI_yes n n _ (Nat.le_refl _) h).mono ?_; rintro e w' ⟨rfl, hb⟩))
  go_ret
  exact ⟨rfl, hb⟩
theorem catS_no (n : Int) (w : World) (h : n < 0 ∨ 15 < n) : Calls Try.prog 35 #[.int .i64 n] w fun e w' => e = .returned (.int .i64 (-1)) ∧ Below w.heap.size w w' := by
  go_enter Try.func35, Try.ntmps35
  go_wp2_with (go_at_call 38; refine (in_no _ _ _ _ h).mono ?_; rintro e w' ⟨rfl, rfl⟩)
  go_ret
  exact ⟨rfl, Below.refl _ _⟩
theorem catS_yes (n : Nat) (w : World) (h : n ≤ 15) : Calls Try.prog 35 #[.int .i64 n] w fun e w' => e = .returned (.int .i64 (balV n n)) ∧ Below w.heap.size w w' := by
  go_enter Try.func35, Try.ntmps35
  go_wp2_with (first | (go_at_call 38; refine (in_yes _ _ _ _ (by omega) (by omega)).mono ?_; rintro e w' ⟨rfl, rfl⟩) | (go_at_call 44; refine (waysS n n _ (Nat.le_refl _) h).mono ?_; rintro e w' ⟨rfl, hb⟩))
  go_ret
  exact ⟨rfl, hb⟩
theorem law_catalan (n : Int) (w : World) (_ : (Lit.int .i64 n).wf = true) : Calls Try.prog 14 #[.int .i64 n] w fun e w' => e = .returned (.bool true) ∧ Below w.heap.size w w' := by
  by_cases h : n < 0 ∨ 15 < n
  · have HS := Lib.hid (fun w => catS_no n w h)
    have HI := Lib.hid (fun w => catI_no n w h)
    clear h
    go_enter Try.func14, Try.ntmps14
    go_wp2_with fail
    refine (HS.out _).mono ?_
    rintro e w1 ⟨rfl, h1⟩
    go_wp2_with fail
    refine (HI.out _).mono ?_
    rintro e w2 ⟨rfl, h2⟩
    go_wp2_with fail
    go_ret
    exact ⟨rfl, below_then h1 h2⟩
  · obtain ⟨m, rfl⟩ := Int.eq_ofNat_of_zero_le (a := n) (by omega)
    have hm : m ≤ 15 := by omega
    clear h
    go_enter Try.func14, Try.ntmps14
    go_wp2_with fail
    refine (catS_yes m _ hm).mono ?_
    rintro e w1 ⟨rfl, h1⟩
    go_wp2_with fail
    refine (catI_yes m _ hm).mono ?_
    rintro e w2 ⟨rfl, h2⟩
    go_wp2_with fail
    go_ret
    exact ⟨rfl, below_then h1 h2⟩
theorem law_ballot (a b : Int) (w : World) (_ : (Lit.int .i64 a).wf = true) (_ : (Lit.int .i64 b).wf = true) : Calls Try.prog 13 #[.int .i64 a, .int .i64 b] w fun e w' => e = .returned (.bool true) ∧ Below w.heap.size w w' := by
  by_cases h : a < 0 ∨ 15 < a ∨ b < a ∨ 15 < b
  · have HS := Lib.hid (fun w => ballotS_no a b w h)
    have HI := Lib.hid (fun w => ballotI_no a b w h)
    clear h
    go_enter Try.func13, Try.ntmps13
    go_wp2_with fail
    refine (HS.out _).mono ?_
    rintro e w1 ⟨rfl, h1⟩
    go_wp2_with fail
    refine (HI.out _).mono ?_
    rintro e w2 ⟨rfl, h2⟩
    go_wp2_with fail
    go_ret
    exact ⟨rfl, below_then h1 h2⟩
  · obtain ⟨m, rfl⟩ := Int.eq_ofNat_of_zero_le (a := a) (by omega)
    obtain ⟨d, rfl⟩ := Int.eq_ofNat_of_zero_le (a := b) (by omega)
    have hm : m ≤ d := by omega
    have hd : d ≤ 15 := by omega
    clear h
    go_enter Try.func13, Try.ntmps13
    go_wp2_with fail
    refine (ballotS_yes m d _ hm hd).mono ?_
    rintro e w1 ⟨rfl, h1⟩
    go_wp2_with fail
    refine (ballotI_yes m d _ hm hd).mono ?_
    rintro e w2 ⟨rfl, h2⟩
    go_wp2_with fail
    go_ret
    exact ⟨rfl, below_then h1 h2⟩
end Go.Proofs.Ytlnighefombnjaa
