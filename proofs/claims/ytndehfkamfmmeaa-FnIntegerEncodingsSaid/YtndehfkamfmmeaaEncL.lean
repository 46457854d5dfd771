/-
  The law of the integer encodings, walked.
-/
import Derived.Test.YtndehfkamfmmeaaDraw3
import Derived.Test.YtndehfkamfmmeaaEncP
import Derived.Test.YtndehfkamfmmeaaHexS
import Derived.Test.YtndehfkamfmmeaaFmtS
import Derived.Test.YtndehfkamfmmeaaVarD
import Derived.Test.YtndehfkamfmmeaaPars
namespace Go.Proofs.Ytndehfkamfmmeaa
open Go.RowKit
set_option maxRecDepth 100000 in
theorem bigC (A : Option Addr) (n c : Nat) (w : World) : Calls Try.prog 34 #[.slice A n c] w fun e w' => e = .returned (.bool (decide (1048576 < n))) ∧ w = w' := by
  by_cases h : 1048576 < n
  · have h1 : (1048576 : Int) < (n : Int) := by omega
    rw [decide_eq_true h]
    go_enter Try.func34, Try.ntmps34
    go_wp2_with fail
    go_ret
    exact ⟨rfl, rfl⟩
  · have h1 : ¬ (1048576 : Int) < (n : Int) := by omega
    rw [decide_eq_false h]
    go_enter Try.func34, Try.ntmps34
    go_wp2_with fail
    go_ret
    exact ⟨rfl, rfl⟩
/-- Encoding and what is read back of it. -/
theorem varBoth (n : Int) (tail : ByteArray) (ht : tail.size ≤ 40) : ∃ s : ByteArray, (∀ w : World, Calls Try.prog 51 #[.int .i64 n] w fun e w' => e = .returned (.string s) ∧ Below w.heap.size w w') ∧ s.size ≤ 8 ∧ ∃ x k : Int, (∀ w : World, Calls Try.prog 52 #[.string (s ++ tail)] w fun e w' => e = .returned (.tuple #[.int .i64 x, .int .i64 k]) ∧ Below w.heap.size w w') ∧ ((0 ≤ n ∧ n ≤ 562949953421311 ∧ 0 < s.size ∧ x = n ∧ k = s.size) ∨ ((n < 0 ∨ 562949953421311 < n) ∧ s = ByteArray.empty)) := by
  have dec : ∀ s : ByteArray, s.size ≤ 8 → ∀ x k : Int, decR (decV (s ++ tail).data.toList) = .tuple #[.int .i64 x, .int .i64 k] → ∀ w : World, Calls Try.prog 52 #[.string (s ++ tail)] w fun e w' => e = .returned (.tuple #[.int .i64 x, .int .i64 k]) ∧ Below w.heap.size w w' := by
    intro s hs x k h w
    have := decodeVarintI (s ++ tail) w (by rw [ByteArray.size_append]; omega)
    rw [h] at this
    exact this
  by_cases h : 0 ≤ n ∧ n ≤ 562949953421311
  · obtain ⟨n0, rfl⟩ : ∃ n0 : Nat, n = n0 := ⟨n.toNat, by omega⟩
    obtain ⟨v1, v2, _⟩ := var_facts 6 n0 7 (by decide) (by rw [p128]; omega)
    have v1' : 1 ≤ (bts (encV 8 n0)).length := v1
    have v2' : (bts (encV 8 n0)).length ≤ 7 := v2
    rw [bts_len] at v1' v2'
    have hsz : (strOfNums (encV 8 n0)).size = (encV 8 n0).length := strOfNums_size _
    refine ⟨strOfNums (encV 8 n0), fun w => encodeVarintI_yes n0 w (by omega), by omega, n0, (encV 8 n0).length, dec _ (by omega) _ _ ?_, .inl ⟨h.1, h.2, by omega, rfl, by omega⟩⟩
    have e : (strOfNums (encV 8 n0) ++ tail).data.toList = bts (encV 8 n0) ++ tail.data.toList := by rw [← bts_data]; simp
    rw [e, dec_enc n0 (by omega)]
    rfl
  · have hn : n < 0 ∨ 562949953421311 < n := by omega
    cases hd : decV (ByteArray.empty ++ tail).data.toList with
    | none => exact ⟨ByteArray.empty, fun w => encodeVarintI_no n w hn, by decide, 0, 0, dec _ (by decide) _ _ (by rw [hd]; rfl), .inr ⟨hn, rfl⟩⟩
    | some x => exact ⟨ByteArray.empty, fun w => encodeVarintI_no n w hn, by decide, x.1, x.2, dec _ (by decide) _ _ (by rw [hd]; rfl), .inr ⟨hn, rfl⟩⟩
theorem decFAny (s : ByteArray) (n : Int) (hs : s.size ≤ 1048576) : ∃ (y : Int) (is : Bool), ∀ w : World, Calls Try.prog 55 #[.string s, .int .i64 n] w fun e w' => e = .returned (.tuple #[.int .i64 y, .bool is]) ∧ w = w' := by
  by_cases h : n < 1 ∨ 7 < n ∨ (s.size : Int) < n
  · exact ⟨_, _, fun w => decodeFixedI_no s n w h⟩
  · obtain ⟨m, rfl⟩ : ∃ m : Nat, n = m := ⟨n.toNat, by omega⟩
    exact ⟨_, _, fun w => decodeFixedI_yes s m w (by omega) (by omega) (by omega) hs⟩
theorem fixBoth (n m : Int) (h1 : -9223372036854775808 ≤ n) (h2 : n ≤ 9223372036854775807) (tail : ByteArray) (ht : tail.size ≤ 40) : ∃ s : ByteArray, (∀ w : World, Calls Try.prog 54 #[.int .i64 n, .int .i64 m] w fun e w' => e = .returned (.string s) ∧ Below w.heap.size w w') ∧ (∀ w : World, Calls Try.prog 56 #[.int .i64 n, .int .i64 m] w fun e w' => e = .returned (.string s) ∧ Below w.heap.size w w') ∧ s.size ≤ 8 ∧ ∃ (y : Int) (is : Bool), (∀ w : World, Calls Try.prog 55 #[.string (s ++ tail), .int .i64 m] w fun e w' => e = .returned (.tuple #[.int .i64 y, .bool is]) ∧ w = w') ∧ ((0 < s.size ∧ is = true ∧ y = n ∧ m = s.size) ∨ s = ByteArray.empty) := by
  by_cases h : m < 1 ∨ 7 < m ∨ n < 0
  · obtain ⟨y, is, hd⟩ := decFAny (ByteArray.empty ++ tail) m (by rw [ByteArray.size_append]; simp; omega)
    exact ⟨_, fun w => encodeFixedI_no n m w h, fun w => encodeFixedS_no n m w h, by decide, y, is, hd, .inr rfl⟩
  · obtain ⟨n0, rfl⟩ : ∃ n0 : Nat, n = n0 := ⟨n.toNat, by omega⟩
    obtain ⟨m, rfl⟩ : ∃ k : Nat, m = k := ⟨m.toNat, by omega⟩
    have hS := fun w => encodeFixedS_yes n0 m w (by omega) (by omega) (by omega)
    by_cases hb : n0 < 256 ^ m
    · rw [if_pos hb] at hS
      have hsz : (strOfNums (lowB n0 m)).size = m := by rw [strOfNums_size, len_lowB]
      refine ⟨_, fun w => encodeFixedI_yes n0 m w (by omega) (by omega) hb, hS, by omega, _, _, fun w => decodeFixedI_yes _ m w (by omega) (by omega) (by rw [ByteArray.size_append]; omega) (by rw [ByteArray.size_append]; omega), .inl ⟨by omega, rfl, ?_, by omega⟩⟩
      have e : (strOfNums (lowB n0 m) ++ tail).data.toList = bts (lowB n0 m) ++ tail.data.toList := by rw [← bts_data]; simp
      have hl : (bts (lowB n0 m)).length = m := by rw [bts_len, len_lowB]
      rw [e]
      have ht2 : (bts (lowB n0 m) ++ tail.data.toList).take m = bts (lowB n0 m) := by
        rw [List.take_append_of_le_length (by omega), List.take_of_length_le (by omega)]
      rw [ht2, decF_low n0 m hb]
    · rw [if_neg hb] at hS
      obtain ⟨y, is, hd⟩ := decFAny (ByteArray.empty ++ tail) m (by rw [ByteArray.size_append]; simp; omega)
      exact ⟨_, fun w => encodeFixedI_big n0 m w (by omega) (by omega) (by omega) (by omega), hS, by decide, y, is, hd, .inr rfl⟩
theorem hexBoth (s : ByteArray) (hs : s.size ≤ 40) : ∃ h : ByteArray, (∀ w : World, Calls Try.prog 57 #[.string s] w fun e w' => e = .returned (.string h) ∧ Below w.heap.size w w') ∧ h.size = 2 * s.size ∧ (∀ w : World, Calls Try.prog 58 #[.string h] w fun e w' => e = .returned (.tuple #[.string s, .bool true]) ∧ Below w.heap.size w w') := by
  have hsz : (strOfNums (hexEnc s.data.toList)).size = 2 * s.size := by rw [strOfNums_size, len_hexEnc]; simp
  refine ⟨_, fun w => encodeHexI s w (by omega), hsz, fun w => ?_⟩
  have := decodeHexI_even (strOfNums (hexEnc s.data.toList)) w (by omega) (by omega)
  rw [bts_data, hex_back] at this
  have e : hexR (some (s.data.toList.map fun b => (b.toNat : Int))) = .tuple #[.string s, .bool true] := by show Value.tuple #[.string (strOfNums _), _] = _; rw [str_back]
  rw [e] at this
  exact this
theorem fmtBoth (n : Int) (h1 : -9223372036854775808 ≤ n) (h2 : n ≤ 9223372036854775807) : ∃ d : ByteArray, (∀ w : World, Calls Try.prog 59 #[.int .i64 n] w fun e w' => e = .returned (.string d) ∧ Below w.heap.size w w') ∧ (∀ w : World, Calls Try.prog 61 #[.int .i64 n] w fun e w' => e = .returned (.string d) ∧ Below w.heap.size w w') ∧ ∃ (z : Int) (g : Bool), (∀ w : World, Calls Try.prog 60 #[.string d] w fun e w' => e = .returned (.tuple #[.int .i64 z, .bool g]) ∧ Below w.heap.size w w') ∧ ((g = true ∧ z = n ∧ -1000000000 < n ∧ n < 1000000000) ∨ (g = false ∧ ¬ (-1000000000 < n ∧ n < 1000000000))) := by
  have hsz : (strOfNums (fmt n)).size ≤ 21 := by
    rw [strOfNums_size]; unfold fmt; split
    · simp
    · rw [List.length_append, List.length_reverse]
      have := len_dig 20 n.natAbs
      unfold sgn; split <;> simp <;> omega
  have hp := fun w => parseI (strOfNums (fmt n)) w (by omega)
  rw [bts_data, parse_fmt n h1 h2] at hp
  by_cases h : -1000000000 < n ∧ n < 1000000000
  · rw [if_pos h] at hp
    exact ⟨_, fun w => formatI n w h1 h2, fun w => formatS n w h1 h2, _, _, hp, .inl ⟨rfl, rfl, h.1, h.2⟩⟩
  · rw [if_neg h] at hp
    exact ⟨_, fun w => formatI n w h1 h2, fun w => formatS n w h1 h2, _, _, hp, .inr ⟨rfl, h⟩⟩
end Go.Proofs.Ytndehfkamfmmeaa
