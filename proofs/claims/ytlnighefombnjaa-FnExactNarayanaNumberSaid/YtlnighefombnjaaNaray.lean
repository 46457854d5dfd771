/-
  NarayanaNumber of both packages and its law, walked: products of binomials, of small numbers.
-/
import Derived.Test.YtlnighefombnjaaOps
namespace Go.Proofs.Ytlnighefombnjaa
open Go.RowKit
/-- impl.choose after i rounds. -/
def chI (n k : Nat) : Nat → Nat
  | 0 => 1
  | i + 1 => chI n k i * (n - k + (i + 1)) / (i + 1)
/-- spec.l3Binomial after i rounds. -/
def biS (n : Nat) : Nat → Nat
  | 0 => 1
  | i + 1 => biS n i * (n - i) / (i + 1)
theorem ch_small : ∀ n, n < 16 → ∀ k, k < 16 → ∀ i, i < 16 → k ≤ n → i ≤ k → chI n k i ≤ 100000 := by decide +kernel
theorem bi_small : ∀ n, n < 16 → ∀ i, i < 16 → i ≤ n → biS n i ≤ 100000 := by decide +kernel
theorem ch_bi : ∀ n, n < 16 → ∀ k, k < 16 → k ≤ n → chI n k k = biS n k := by decide +kernel

set_option maxRecDepth 100000 in
theorem chooseI (n k : Nat) (w : World) (hn : n ≤ 15) (hk : k ≤ n) : Calls Try.prog 43 #[.int .i64 n, .int .i64 k] w fun e w' => e = .returned (.int .i64 (chI n k k)) ∧ w = w' := by
  have h0 : decide ((k : Int) < 0) = false := by simp only [decide_eq_false_iff_not]; omega
  have h1 : decide ((n : Int) < (k : Int)) = false := by simp only [decide_eq_false_iff_not]; omega
  have h2 : decide (n < k) = false := by simp only [decide_eq_false_iff_not]; omega
  go_enter Try.func43, Try.ntmps43
  go_wp2_with fail
  go_loop [4, 5] (fun x i => ∃ j : Nat, j ≤ k ∧ i = .int .i64 ((j : Int) + 1) ∧ x = .int .i64 (chI n k j)) (fun _ i => k + 1 - (intOf i).toNat)
  case atStart => exact ⟨0, by omega, rfl, rfl⟩
  case round =>
    obtain ⟨j, hj, rfl, rfl⟩ := hrel
    by_cases hlt : j < k
    · have hb := ch_small n (by omega) k (by omega) j (by omega) hk hj
      have HS : Hid (chI n k (j + 1) = chI n k j * (n - k + (j + 1)) / (j + 1)) := rfl
      obtain ⟨x, hx⟩ : ∃ x, x = chI n k j := ⟨_, rfl⟩
      rw [← hx] at hb HS ⊢
      have hm : x * (n - k + (j + 1)) ≤ 100000 * 100 := Nat.mul_le_mul hb (by omega)
      obtain ⟨p, hp⟩ : ∃ p, p = x * (n - k + (j + 1)) := ⟨_, rfl⟩
      rw [← hp] at hm HS
      have hp' : (x : Int) * ((n : Int) - (k : Int) + ((j : Int) + 1)) = (p : Int) := by
        rw [hp, Int.natCast_mul]; congr 1; omega
      clear hx hp
      go_wp2
      go_round
      case rel => exact ⟨j + 1, by omega, by go_num, by rw [HS.out]; go_num⟩
      case measure => simp [intOf]; omega
    · obtain rfl : j = k := by omega
      go_wp2
      go_ret
      exact ⟨rfl, rfl⟩

set_option maxRecDepth 100000 in
theorem binomialS (n k : Nat) (w : World) (hn : n ≤ 15) (hk : k ≤ n) : Calls Try.prog 42 #[.int .i64 n, .int .i64 k] w fun e w' => e = .returned (.int .i64 (biS n k)) ∧ w = w' := by
  go_enter Try.func42, Try.ntmps42
  go_wp2_with fail
  go_loop [4, 5] (fun x i => ∃ j : Nat, j ≤ k ∧ i = .int .i64 (j : Int) ∧ x = .int .i64 (biS n j)) (fun _ i => k - (intOf i).toNat)
  case atStart => exact ⟨0, by omega, rfl, rfl⟩
  case round =>
    obtain ⟨j, hj, rfl, rfl⟩ := hrel
    by_cases hlt : j < k
    · have hb := bi_small n (by omega) j (by omega) (by omega)
      have HS : Hid (biS n (j + 1) = biS n j * (n - j) / (j + 1)) := rfl
      obtain ⟨x, hx⟩ : ∃ x, x = biS n j := ⟨_, rfl⟩
      rw [← hx] at hb HS ⊢
      have hm : x * (n - j) ≤ 100000 * 100 := Nat.mul_le_mul hb (by omega)
      obtain ⟨p, hp⟩ : ∃ p, p = x * (n - j) := ⟨_, rfl⟩
      rw [← hp] at hm HS
      have hp' : (x : Int) * ((n : Int) - (j : Int)) = (p : Int) := by
        rw [hp, Int.natCast_mul]; congr 1; omega
      clear hx hp
      go_wp2
      go_round
      case rel => exact ⟨j + 1, by omega, by go_num, by rw [HS.out]; go_num⟩
      case measure => simp [intOf]; omega
    · obtain rfl : j = k := by omega
      go_wp2
      go_ret
      exact ⟨rfl, rfl⟩
end Go.Proofs.Ytlnighefombnjaa
