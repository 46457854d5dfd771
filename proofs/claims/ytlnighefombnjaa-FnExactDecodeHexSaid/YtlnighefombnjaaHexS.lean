/-
  spec.EncodeHex and the law laws.FnExactEncodeHex, walked.
-/
import Derived.Test.YtlnighefombnjaaHexI
namespace Go.Proofs.Ytlnighefombnjaa
open Go.RowKit
theorem digitS (n : Nat) (w : World) (h : n < 16) : Calls Try.prog 37 #[.int .i64 (n : Int)] w fun e w' => e = .returned (.int .u8 (hexDig n)) ∧ w = w' := by
  have h0 : (0 : Int) ≤ (n : Int) := by omega
  have h1 : (n : Int) < 16 := by omega
  have hl := hexLit n h (by show _ < 16; omega)
  go_enter Try.func37, Try.ntmps37
  go_wp2
  go_ret
  exact ⟨by rw [← hl]; rfl, rfl⟩

theorem wrap_byte (c : UInt8) : IntKind.i64.wrap (c.toNat : Int) = (c.toNat : Int) := IntWalk.i64_in _ ⟨by omega, by have := c.toNat_lt; omega⟩
theorem wrap_div16 (c : UInt8) : IntKind.i64.wrap ((IntKind.i64.wrap (c.toNat : Int)).tdiv 16) = ((c.toNat / 16 : Nat) : Int) := by
  rw [wrap_byte, Int.tdiv_eq_ediv_of_nonneg (by omega), IntWalk.i64_in _ ⟨by omega, by have := c.toNat_lt; omega⟩]; omega
theorem wrap_mod16 (c : UInt8) : (IntKind.i64.wrap (c.toNat : Int)).tmod 16 = ((c.toNat % 16 : Nat) : Int) := by
  rw [wrap_byte, Int.tmod_eq_emod_of_nonneg (by omega)]; omega

set_option maxHeartbeats 400000 in
theorem encodeHexS (s : ByteArray) (w : World) (hs : s.size ≤ 1048576) : Calls Try.prog 15 #[.string s] w fun e w' => e = .returned (.string (strOfNums (hexEnc s.data.toList))) ∧ Below w.heap.size w w' := by
  have hlit := Buf.lit (w0 := w) (e := 5) (Below.refl _ w) [] (by decide)
  go_enter Try.func15, Try.ntmps15
  go_wp2_with fail
  go_loopw [3, 4] (fun v i wr => ∃ k : Nat, k ≤ s.size ∧ i = .int .i64 k ∧ Buf w wr 5 v ((hexEnc (s.data.toList.take k)).map (Value.int .u8))) (fun _ i _ => s.size - (intOf i).toNat)
  case atStart => exact ⟨0, Nat.zero_le _, rfl, hlit⟩
  case round =>
    obtain ⟨k, hk, rfl, hBr⟩ := hrel
    by_cases hlt : k < s.size
    · have hts := hexEnc_snoc (s.data.toList.take k) s[k]
      rw [← take_snoc s k hlt] at hts
      have H := Lib.hid hts
      clear hts
      have hlen : ((hexEnc (s.data.toList.take k)).map (Value.int .u8)).length ≤ 2 * k := by simp [len_hexEnc]; omega
      have hc1 : s[k].toNat / 16 < 16 := by have := s[k].toNat_lt; omega
      have hc2 : s[k].toNat % 16 < 16 := by omega
      go_wp2_with fail
      go_region_law (first | (refine step_buf elU8 rfl _ _ rfl (by exact (hBr.alloc _).drew) rfl wr.heap.size 2 2 [_, _] (0, 0) rfl (by exact heap_alloc_new wr _) rfl (by decide) (by intro u hu; simp at hu; rcases hu with rfl | rfl <;> rfl) (by omega) ?_; intro v2 w2 hB2 _ _) | (go_simp; go_at_call 37; first | (rw [wrap_div16]; refine (digitS (s[k].toNat / 16) _ hc1).mono ?_; rintro e w' ⟨rfl, rfl⟩) | (rw [wrap_mod16]; refine (digitS (s[k].toNat % 16) _ hc2).mono ?_; rintro e w' ⟨rfl, rfl⟩)))
      all_goals
        go_wp2
        go_roundw
        case rel =>
          refine ⟨k + 1, by omega, by go_num, ?_⟩
          rw [H.out, List.map_append]
          exact hB2
        case measure => simp [intOf]; omega
    · have hcv := buf_string (t := 39) (d := 9) elU8.sl Try.underlying5 Try.underlying9 hBr
      go_wp2
      go_ret
      refine ⟨?_, hBr.bel⟩
      rw [take_end s k hlt]; rfl

theorem law_encodeHex (s : ByteArray) (w : World) (hs : s.size ≤ maxLen) : Calls Try.prog 4 #[.string s] w fun e w' => e = .returned (.bool true) ∧ Below w.heap.size w w' := by
  unfold maxLen at hs
  by_cases hb : s.size ≤ 1048576
  · go_enter Try.func4, Try.ntmps4
    go_wp2_with fail
    refine (encodeHexS s _ hb).mono ?_
    rintro e w1 ⟨rfl, hb1⟩
    go_wp2_with fail
    refine (encodeHexI s _ hb).mono ?_
    rintro e w2 ⟨rfl, hb2⟩
    go_wp2_with fail
    go_ret
    exact ⟨rfl, below_then hb1 hb2⟩
  · go_enter Try.func4, Try.ntmps4
    go_wp2
    go_ret
    exact ⟨rfl, Below.refl _ _⟩
end Go.Proofs.Ytlnighefombnjaa
