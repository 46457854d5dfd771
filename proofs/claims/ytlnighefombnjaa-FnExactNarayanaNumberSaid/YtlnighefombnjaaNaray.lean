/-
  NarayanaNumber of both packages and its law, walked: products of binomials, of small numbers.
-/
import Derived.Test.YtlnighefombnjaaOps
namespace Go.Proofs.Ytlnighefombnjaa
open Go.RowKit
/-- impl.choose after i rounds. -/
def chI (n k : Nat) : Nat → Nat
  | 0 => 1
  | i + 1 => chI n k i * (n - k + (i + 1)) / (i + 1)
/-- spec.l3Binomial after i rounds. -/
def biS (n : Nat) : Nat → Nat
  | 0 => 1
  | i + 1 => biS n i * (n - i) / (i + 1)
theorem ch_small : ∀ n, n < 16 → ∀ k, k < 16 → ∀ i, i < 16 → k ≤ n → i ≤ k → chI n k i ≤ 100000 := by decide +kernel
theorem bi_small : ∀ n, n < 16 → ∀ i, i < 16 → i ≤ n → biS n i ≤ 100000 := by decide +kernel
theorem ch_bi : ∀ n, n < 16 → ∀ k, k < 16 → k ≤ n → chI n k k = biS n k := by decide +kernel

theorem wrap_div (p d : Nat) (h : p ≤ 1000000000000) : wrap64 ((p : Int) / (d : Int)) = ((p / d : Nat) : Int) := by
  have h1 : p / d ≤ p := Nat.div_le_self _ _
  have h2 : ((p : Int) / (d : Int)) = ((p / d : Nat) : Int) := rfl
  rw [h2]
  generalize p / d = q at h1
  exact IntWalk.wrap64_in _ ⟨by omega, by omega⟩

set_option maxRecDepth 100000 in
theorem chooseI (n k : Nat) (w : World) (hn : n ≤ 15) (hk : k ≤ n) : Calls Try.prog 43 #[.int .i64 n, .int .i64 k] w fun e w' => e = .returned (.int .i64 (chI n k k)) ∧ w = w' := by
  have h0 : decide ((k : Int) < 0) = false := by simp only [decide_eq_false_iff_not]; omega
  have h1 : decide ((n : Int) < (k : Int)) = false := by simp only [decide_eq_false_iff_not]; omega
  have h2 : decide (n < k) = false := by simp only [decide_eq_false_iff_not]; omega
  go_enter Try.func43, Try.ntmps43
  go_wp2_with fail
  go_loop [5, 6] (fun x i => ∃ j : Nat, j ≤ k ∧ i = .int .i64 ((j : Int) + 1) ∧ x = .int .i64 (chI n k j)) (fun _ i => k + 1 - (intOf i).toNat)
  case atStart => exact ⟨0, by omega, rfl, rfl⟩
  case round =>
    obtain ⟨j, hj, rfl, rfl⟩ := hrel
    by_cases hlt : j < k
    · have hb := ch_small n (by omega) k (by omega) j (by omega) hk hj
      have HS : Hid (chI n k (j + 1) = chI n k j * (n - k + (j + 1)) / (j + 1)) := rfl
      obtain ⟨x, hx⟩ : ∃ x, x = chI n k j := ⟨_, rfl⟩
      rw [← hx] at hb HS ⊢
      have hm : x * (n - k + (j + 1)) ≤ 100000 * 100 := Nat.mul_le_mul hb (by omega)
      obtain ⟨p, hp⟩ : ∃ p, p = x * (n - k + (j + 1)) := ⟨_, rfl⟩
      rw [← hp] at hm HS
      have hp' : (x : Int) * ((n : Int) - (k : Int) + ((j : Int) + 1)) = (p : Int) := by
        rw [hp, Int.natCast_mul]; congr 1; omega
      clear hx hp
      go_wp2
      go_round
      case rel => exact ⟨j + 1, by omega, by go_num, by rw [HS.out, ← wrap_div p (j + 1) (by omega)]; rfl⟩
      case measure => simp [intOf]; omega
    · obtain rfl : j = k := by omega
      go_wp2
      go_ret
      exact ⟨rfl, rfl⟩

set_option maxRecDepth 100000 in
theorem binomialS (n k : Nat) (w : World) (hn : n ≤ 15) (hk : k ≤ n) : Calls Try.prog 42 #[.int .i64 n, .int .i64 k] w fun e w' => e = .returned (.int .i64 (biS n k)) ∧ w = w' := by
  go_enter Try.func42, Try.ntmps42
  go_wp2_with fail
  go_loop [5, 6] (fun x i => ∃ j : Nat, j ≤ k ∧ i = .int .i64 (j : Int) ∧ x = .int .i64 (biS n j)) (fun _ i => k - (intOf i).toNat)
  case atStart => exact ⟨0, by omega, rfl, rfl⟩
  case round =>
    obtain ⟨j, hj, rfl, rfl⟩ := hrel
    by_cases hlt : j < k
    · have hb := bi_small n (by omega) j (by omega) (by omega)
      have HS : Hid (biS n (j + 1) = biS n j * (n - j) / (j + 1)) := rfl
      obtain ⟨x, hx⟩ : ∃ x, x = biS n j := ⟨_, rfl⟩
      rw [← hx] at hb HS ⊢
      have hm : x * (n - j) ≤ 100000 * 100 := Nat.mul_le_mul hb (by omega)
      obtain ⟨p, hp⟩ : ∃ p, p = x * (n - j) := ⟨_, rfl⟩
      rw [← hp] at hm HS
      have hp' : (x : Int) * ((n : Int) - (j : Int)) = (p : Int) := by
        rw [hp, Int.natCast_mul]; congr 1; omega
      clear hx hp
      go_wp2
      go_round
      case rel => exact ⟨j + 1, by omega, by go_num, by rw [HS.out, ← wrap_div p (j + 1) (by omega)]; rfl⟩
      case measure => simp [intOf]; omega
    · obtain rfl : j = k := by omega
      go_wp2
      go_ret
      exact ⟨rfl, rfl⟩

/-- The number of Narayana. -/
def narV (n k : Int) : Int := if 0 ≤ n ∧ n ≤ 15 ∧ 0 ≤ k ∧ k ≤ n then (if n = 0 then 1 else if k = 0 then 0 else ((biS n.toNat k.toNat * biS n.toNat (k.toNat - 1) / n.toNat : Nat) : Int)) else 0

set_option maxRecDepth 100000 in
theorem narI (n k : Int) (w : World) : Calls Try.prog 32 #[.int .i64 n, .int .i64 k] w fun e w' => e = .returned (.int .i64 (narV n k)) ∧ w = w' := by
  by_cases h1 : 0 ≤ n ∧ n ≤ 15
  · obtain ⟨h1, h2⟩ := h1
    by_cases h3 : 0 ≤ k ∧ k ≤ n
    · obtain ⟨h3, h4⟩ := h3
      by_cases h0 : n = 0
      · have HV : Hid (narV n k = 1) := by show _ = _; unfold narV; rw [if_pos ⟨h1, h2, h3, h4⟩, if_pos h0]
        have e0 : (n == 0) = true := by simp [h0]
        clear h0
        go_enter Try.func32, Try.ntmps32
        go_wp2_with (go_at_call 39; refine (within_yes _ _ _ _ (by omega) (by omega)).mono ?_; rintro e w' ⟨rfl, rfl⟩)
        go_ret
        exact ⟨by rw [HV.out]; rfl, rfl⟩
      · have e0 : (n == 0) = false := by simpa using h0
        by_cases hk : k = 0
        · have HV : Hid (narV n k = 0) := by show _ = _; unfold narV; rw [if_pos ⟨h1, h2, h3, h4⟩, if_neg h0, if_pos hk]
          have e1 : (k == 0) = true := by simp [hk]
          clear h0 hk
          go_enter Try.func32, Try.ntmps32
          go_wp2_with (go_at_call 39; refine (within_yes _ _ _ _ (by omega) (by omega)).mono ?_; rintro e w' ⟨rfl, rfl⟩)
          go_ret
          exact ⟨by rw [HV.out]; rfl, rfl⟩
        · have e1 : (k == 0) = false := by simpa using hk
          have HV : Hid (narV n k = ((biS n.toNat k.toNat * biS n.toNat (k.toNat - 1) / n.toNat : Nat) : Int)) := by show _ = _; unfold narV; rw [if_pos ⟨h1, h2, h3, h4⟩, if_neg h0, if_neg hk]
          obtain ⟨n, rfl⟩ := Int.eq_ofNat_of_zero_le h1
          obtain ⟨k, rfl⟩ := Int.eq_ofNat_of_zero_le h3
          simp only [Int.toNat_natCast] at HV
          have k1 : 1 ≤ k := by omega
          have n1 : 1 ≤ n := by omega
          have kn : k ≤ n := by omega
          have n15 : n ≤ 15 := by omega
          clear h0 hk
          have b1 := bi_small n (by omega) k (by omega) kn
          have b2 := bi_small n (by omega) (k - 1) (by omega) (by omega)
          have c1 := ch_bi n (by omega) k (by omega) kn
          have c2 := ch_bi n (by omega) (k - 1) (by omega) (by omega)
          have hm : biS n k * biS n (k - 1) ≤ 100000 * 100000 := Nat.mul_le_mul b1 b2
          obtain ⟨x, hx⟩ : ∃ x, x = biS n k := ⟨_, rfl⟩
          obtain ⟨y, hy⟩ : ∃ y, y = biS n (k - 1) := ⟨_, rfl⟩
          rw [← hx] at c1 b1 hm HV
          rw [← hy] at c2 b2 hm HV
          obtain ⟨p, hp⟩ : ∃ p, p = x * y := ⟨_, rfl⟩
          rw [← hp] at hm HV
          have hp' : (x : Int) * (y : Int) = (p : Int) := by rw [hp, Int.natCast_mul]
          have HC := Lib.hid (fun w => chooseI n k w n15 kn)
          have HD := Lib.hid (fun w => chooseI n (k - 1) w n15 (by omega))
          rw [c1] at HC
          rw [c2, show ((k - 1 : Nat) : Int) = (k : Int) - 1 from by omega] at HD
          clear hx hy hp c1 c2
          go_enter Try.func32, Try.ntmps32
          go_wp2_with (go_at_call 39; refine (within_yes _ _ _ _ (by omega) (by omega)).mono ?_; rintro e w' ⟨rfl, rfl⟩)
          refine (HC.out _).mono ?_
          rintro e w' ⟨rfl, rfl⟩
          go_wp2_with fail
          refine (HD.out _).mono ?_
          rintro e w' ⟨rfl, rfl⟩
          go_wp2_with fail
          go_ret
          exact ⟨by rw [HV.out, ← wrap_div p n (by omega)]; rfl, rfl⟩
    · have HV : Hid (narV n k = 0) := by show _ = _; unfold narV; rw [if_neg (by omega)]
      have h4 : k < 0 ∨ n < k := by omega
      clear h3
      go_enter Try.func32, Try.ntmps32
      go_wp2_with fail
      refine (within_yes _ _ _ _ (by omega) (by omega)).mono ?_
      rintro e w' ⟨rfl, rfl⟩
      go_wp2_with fail
      refine (within_no _ _ _ _ h4).mono ?_
      rintro e w' ⟨rfl, rfl⟩
      clear h4
      go_wp2_with fail
      go_ret
      exact ⟨by rw [HV.out]; rfl, rfl⟩
  · have HV : Hid (narV n k = 0) := by show _ = _; unfold narV; rw [if_neg (by omega)]
    have h4 : n < 0 ∨ 15 < n := by omega
    clear h1
    go_enter Try.func32, Try.ntmps32
    go_wp2_with fail
    refine (within_no _ _ _ _ h4).mono ?_
    rintro e w' ⟨rfl, rfl⟩
    clear h4
    go_wp2_with fail
    go_ret
    exact ⟨by rw [HV.out]; rfl, rfl⟩
set_option maxRecDepth 100000 in
theorem narS (n k : Int) (w : World) : Calls Try.prog 31 #[.int .i64 n, .int .i64 k] w fun e w' => e = .returned (.int .i64 (narV n k)) ∧ w = w' := by
  by_cases h1 : 0 ≤ n ∧ n ≤ 15
  · obtain ⟨h1, h2⟩ := h1
    by_cases h3 : 0 ≤ k ∧ k ≤ n
    · obtain ⟨h3, h4⟩ := h3
      by_cases h0 : n = 0
      · have HV : Hid (narV n k = 1) := by show _ = _; unfold narV; rw [if_pos ⟨h1, h2, h3, h4⟩, if_pos h0]
        have e0 : (n == 0) = true := by simp [h0]
        clear h0
        go_enter Try.func31, Try.ntmps31
        go_wp2_with (go_at_call 38; refine (in_yes _ _ _ _ (by omega) (by omega)).mono ?_; rintro e w' ⟨rfl, rfl⟩)
        go_ret
        exact ⟨by rw [HV.out]; rfl, rfl⟩
      · have e0 : (n == 0) = false := by simpa using h0
        by_cases hk : k = 0
        · have HV : Hid (narV n k = 0) := by show _ = _; unfold narV; rw [if_pos ⟨h1, h2, h3, h4⟩, if_neg h0, if_pos hk]
          have e1 : (k == 0) = true := by simp [hk]
          clear h0 hk
          go_enter Try.func31, Try.ntmps31
          go_wp2_with (go_at_call 38; refine (in_yes _ _ _ _ (by omega) (by omega)).mono ?_; rintro e w' ⟨rfl, rfl⟩)
          go_ret
          exact ⟨by rw [HV.out]; rfl, rfl⟩
        · have e1 : (k == 0) = false := by simpa using hk
          have HV : Hid (narV n k = ((biS n.toNat k.toNat * biS n.toNat (k.toNat - 1) / n.toNat : Nat) : Int)) := by show _ = _; unfold narV; rw [if_pos ⟨h1, h2, h3, h4⟩, if_neg h0, if_neg hk]
          obtain ⟨n, rfl⟩ := Int.eq_ofNat_of_zero_le h1
          obtain ⟨k, rfl⟩ := Int.eq_ofNat_of_zero_le h3
          simp only [Int.toNat_natCast] at HV
          have k1 : 1 ≤ k := by omega
          have n1 : 1 ≤ n := by omega
          have kn : k ≤ n := by omega
          have n15 : n ≤ 15 := by omega
          clear h0 hk
          have b1 := bi_small n (by omega) k (by omega) kn
          have b2 := bi_small n (by omega) (k - 1) (by omega) (by omega)
          have hm : biS n k * biS n (k - 1) ≤ 100000 * 100000 := Nat.mul_le_mul b1 b2
          obtain ⟨x, hx⟩ : ∃ x, x = biS n k := ⟨_, rfl⟩
          obtain ⟨y, hy⟩ : ∃ y, y = biS n (k - 1) := ⟨_, rfl⟩
          rw [← hx] at b1 hm HV
          rw [← hy] at b2 hm HV
          obtain ⟨p, hp⟩ : ∃ p, p = x * y := ⟨_, rfl⟩
          rw [← hp] at hm HV
          have hp' : (x : Int) * (y : Int) = (p : Int) := by rw [hp, Int.natCast_mul]
          have HC := Lib.hid (fun w => binomialS n k w n15 kn)
          have HD := Lib.hid (fun w => binomialS n (k - 1) w n15 (by omega))
          rw [← hx] at HC
          rw [← hy, show ((k - 1 : Nat) : Int) = (k : Int) - 1 from by omega] at HD
          clear hx hy hp
          go_enter Try.func31, Try.ntmps31
          go_wp2_with (go_at_call 38; refine (in_yes _ _ _ _ (by omega) (by omega)).mono ?_; rintro e w' ⟨rfl, rfl⟩)
          refine (HC.out _).mono ?_
          rintro e w' ⟨rfl, rfl⟩
          go_wp2_with fail
          refine (HD.out _).mono ?_
          rintro e w' ⟨rfl, rfl⟩
          go_wp2_with fail
          go_ret
          exact ⟨by rw [HV.out, ← wrap_div p n (by omega)]; rfl, rfl⟩
    · have HV : Hid (narV n k = 0) := by show _ = _; unfold narV; rw [if_neg (by omega)]
      have h4 : k < 0 ∨ n < k := by omega
      clear h3
      go_enter Try.func31, Try.ntmps31
      go_wp2_with fail
      refine (in_yes _ _ _ _ (by omega) (by omega)).mono ?_
      rintro e w' ⟨rfl, rfl⟩
      go_wp2_with fail
      refine (in_no _ _ _ _ h4).mono ?_
      rintro e w' ⟨rfl, rfl⟩
      clear h4
      go_wp2_with fail
      go_ret
      exact ⟨by rw [HV.out]; rfl, rfl⟩
  · have HV : Hid (narV n k = 0) := by show _ = _; unfold narV; rw [if_neg (by omega)]
    have h4 : n < 0 ∨ 15 < n := by omega
    clear h1
    go_enter Try.func31, Try.ntmps31
    go_wp2_with fail
    refine (in_no _ _ _ _ h4).mono ?_
    rintro e w' ⟨rfl, rfl⟩
    clear h4
    go_wp2_with fail
    go_ret
    exact ⟨by rw [HV.out]; rfl, rfl⟩

theorem law_narayana (n k : Int) (w : World) (_ : (Lit.int .i64 n).wf = true) (_ : (Lit.int .i64 k).wf = true) : Calls Try.prog 12 #[.int .i64 n, .int .i64 k] w fun e w' => e = .returned (.bool true) ∧ Below w.heap.size w w' := by
  go_enter Try.func12, Try.ntmps12
  go_wp2_with fail
  refine (narS n k _).mono ?_
  rintro e w1 ⟨rfl, rfl⟩
  go_wp2_with fail
  refine (narI n k _).mono ?_
  rintro e w2 ⟨rfl, rfl⟩
  go_wp2_with fail
  go_ret
  exact ⟨rfl, Below.refl _ _⟩
end Go.Proofs.Ytlnighefombnjaa
