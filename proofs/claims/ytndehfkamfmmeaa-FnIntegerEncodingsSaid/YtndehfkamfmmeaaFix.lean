/-
  DecodeFixed of both packages, walked: the number that the first bytes encode.
-/
import Derived.Test.YtndehfkamfmmeaaOps
namespace Go.Proofs.Ytndehfkamfmmeaa
open Go.RowKit
def decF (l : List UInt8) : Nat := l.foldl (fun n b => n * 256 + b.toNat) 0
theorem decF_snoc (l : List UInt8) (b : UInt8) : decF (l ++ [b]) = decF l * 256 + b.toNat := by simp [decF]
theorem decF_lt (l : List UInt8) : decF l < 256 ^ l.length := by
  have : ∀ (m : List UInt8), decF m.reverse < 256 ^ m.length := by
    intro m
    induction m with
    | nil => simp [decF]
    | cons b m ih =>
      rw [List.reverse_cons, decF_snoc, List.length_cons, Nat.pow_succ]
      have := b.toNat_lt
      omega
  have h := this l.reverse
  simpa using h
theorem decF_take (s : ByteArray) (k : Nat) (h : k < 7) : decF (s.data.toList.take k) < 281474976710656 := by
  refine Nat.lt_of_lt_of_le (decF_lt _) (Nat.le_trans (Nat.pow_le_pow_right (by decide) (List.length_take_le _ _)) ?_)
  have : k ≤ 6 := by omega
  exact Nat.le_trans (Nat.pow_le_pow_right (by decide) this) (by decide)

set_option maxHeartbeats 400000 in
theorem decodeFixedI_no (s : ByteArray) (n : Int) (w : World) (h : n < 1 ∨ 7 < n ∨ (s.size : Int) < n) :
    Calls Try.prog 55 #[.string s, .int .i64 n] w fun e w' => e = .returned (.tuple #[.int .i64 0, .bool false]) ∧ w = w' := by
  by_cases h1 : 1 ≤ n ∧ n ≤ 7
  · obtain ⟨h1, h2⟩ := h1
    have h3 : (s.size : Int) < n := by omega
    clear h
    go_enter Try.func55, Try.ntmps55
    go_wp2_with (go_at_call 63; refine (within_yes _ _ _ _ h1 h2).mono ?_; rintro e w' ⟨rfl, rfl⟩)
    go_ret2
    exact ⟨rfl, rfl⟩
  · have h1' : n < 1 ∨ 7 < n := by omega
    clear h h1
    go_enter Try.func55, Try.ntmps55
    go_wp2_with (go_at_call 63; refine (within_no _ _ _ _ h1').mono ?_; rintro e w' ⟨rfl, rfl⟩)
    go_ret2
    exact ⟨rfl, rfl⟩

set_option maxHeartbeats 400000 in
theorem decodeFixedI_yes (s : ByteArray) (n : Nat) (w : World) (h1 : 1 ≤ n) (h2 : n ≤ 7) (h3 : n ≤ s.size) (hs : s.size ≤ 1048576) :
    Calls Try.prog 55 #[.string s, .int .i64 n] w fun e w' => e = .returned (.tuple #[.int .i64 (decF (s.data.toList.take n)), .bool true]) ∧ w = w' := by
  go_enter Try.func55, Try.ntmps55
  go_wp2_with (go_at_call 63; refine (within_yes _ _ _ _ (by omega) (by omega)).mono ?_; rintro e w' ⟨rfl, rfl⟩)
  go_loop [6, 7] (fun v i => ∃ k : Nat, k ≤ n ∧ i = .int .i64 k ∧ v = .int .i64 (decF (s.data.toList.take k))) (fun _ i => n - (intOf i).toNat)
  case atStart => exact ⟨0, Nat.zero_le _, rfl, rfl⟩
  case round =>
    obtain ⟨k, hk, rfl, rfl⟩ := hrel
    by_cases hlt : k < n
    · have hks : k < s.size := by omega
      have hts := decF_snoc (s.data.toList.take k) s[k]
      rw [← take_snoc s k hks] at hts
      have hb := decF_take s k (by omega)
      have hc := s[k].toNat_lt
      generalize hm : decF (s.data.toList.take k) = m at hts hb ⊢
      have H := Lib.hid hts
      have H2 := Lib.hid hm
      clear hts hm
      go_wp2_with fail
      go_round
      case rel => exact ⟨k + 1, by omega, by go_num, by rw [H.out, show (m : Int) * 256 = ((m * 256 : Nat) : Int) from by omega, or_i64 _ _ (by omega) (by omega), or_byte _ _ hc]⟩
      case measure => simp [intOf]; omega
    · go_wp2
      go_ret2
      obtain rfl : k = n := by omega
      exact ⟨rfl, rfl⟩
end Go.Proofs.Ytndehfkamfmmeaa
