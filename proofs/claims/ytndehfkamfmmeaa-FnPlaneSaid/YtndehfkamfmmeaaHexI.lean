/-
  impl.EncodeHex, walked: it returns two digits a byte.
-/
import Derived.Test.YtndehfkamfmmeaaRows
import Derived.Test.YtndehfkamfmmeaaKit
import Derived.Test.YtndehfkamfmmeaaEl
namespace Go.Proofs.Ytndehfkamfmmeaa
open Go.RowKit
def hexDig (n : Nat) : Int := if n < 10 then 48 + n else 87 + n
def hexEnc (l : List UInt8) : List Int := l.flatMap fun b => [hexDig (b.toNat / 16), hexDig (b.toNat % 16)]
theorem len_hexEnc (l : List UInt8) : (hexEnc l).length = 2 * l.length := by
  induction l with
  | nil => rfl
  | cons b l ih => simp only [hexEnc, List.flatMap_cons, List.length_append, List.length_cons, List.length_nil] at *; omega
theorem hexEnc_snoc (l : List UInt8) (b : UInt8) : hexEnc (l ++ [b]) = hexEnc l ++ [hexDig (b.toNat / 16), hexDig (b.toNat % 16)] := by simp [hexEnc]
theorem and15 (c : UInt8) : bits BinOp.and IntKind.u8 (c.toNat : Int) 15 = (c.toNat : Int) % 16 := by
  have := c.toNat_lt
  rw [show (15 : Int) = ((15 : Nat) : Int) from rfl, u8_and_nat _ 15 (by omega) (by decide), nat_mask4]; rfl
theorem hexLit (n : Nat) (h : n < 16) (h' : n < (⟨#[48, 49, 50, 51, 52, 53, 54, 55, 56, 57, 97, 98, 99, 100, 101, 102]⟩ : ByteArray).size) : (((⟨#[48, 49, 50, 51, 52, 53, 54, 55, 56, 57, 97, 98, 99, 100, 101, 102]⟩ : ByteArray)[n]'h').toNat : Int) = hexDig n := by
  have : n = 0 ∨ n = 1 ∨ n = 2 ∨ n = 3 ∨ n = 4 ∨ n = 5 ∨ n = 6 ∨ n = 7 ∨ n = 8 ∨ n = 9 ∨ n = 10 ∨ n = 11 ∨ n = 12 ∨ n = 13 ∨ n = 14 ∨ n = 15 := by omega
  rcases this with rfl | rfl | rfl | rfl | rfl | rfl | rfl | rfl | rfl | rfl | rfl | rfl | rfl | rfl | rfl | rfl <;> rfl

set_option maxHeartbeats 400000 in
theorem encodeHexI (s : ByteArray) (w : World) (hs : s.size ≤ 1048576) : Calls Try.prog 57 #[.string s] w fun e w' => e = .returned (.string (strOfNums (hexEnc s.data.toList))) ∧ Below w.heap.size w w' := by
  go_enter Try.func57, Try.ntmps57
  go_wp2_with (at_make; refine buf_make0 elU8 (Below.refl w.heap.size w) (2 * s.size) (by omega) rfl _ _ rfl _ _ _ rfl rfl (by omega) ?_; intro w1 hB _)
  go_loopw [3, 4] (fun v i wr => ∃ k : Nat, k ≤ s.size ∧ i = .int .i64 k ∧ Buf w wr 5 v ((hexEnc (s.data.toList.take k)).map (Value.int .u8))) (fun _ i _ => s.size - (intOf i).toNat)
  case atStart => exact ⟨0, Nat.zero_le _, rfl, hB⟩
  case round =>
    obtain ⟨k, hk, rfl, hBr⟩ := hrel
    by_cases hlt : k < s.size
    · have hts := hexEnc_snoc (s.data.toList.take k) s[k]
      rw [← take_snoc s k hlt] at hts
      have H := Lib.hid hts
      clear hts
      have hlen : ((hexEnc (s.data.toList.take k)).map (Value.int .u8)).length ≤ 2 * k := by simp [len_hexEnc]; omega
      have hc1 : (0:Int) ≤ (s[k].toNat : Int) / 16 := by have := s[k].toNat_lt; omega
      have hc2 : (s[k].toNat : Int) / 16 < 16 := by have := s[k].toNat_lt; omega
      have hc3 := and15 s[k]
      have hc4 : (0:Int) ≤ (s[k].toNat : Int) % 16 := by omega
      have hc5 : (s[k].toNat : Int) % 16 < 16 := by omega
      go_wp2_with fail
      go_region_law (refine step_buf elU8 rfl _ _ rfl (by exact (hBr.alloc _).drew) rfl wr.heap.size 2 2 [_, _] (0, 0) rfl (by exact heap_alloc_new wr _) rfl (by decide) (by intro u hu; simp at hu; rcases hu with rfl | rfl <;> rfl) (by omega) ?_; intro v2 w2 hB2 _ _)
      all_goals
        go_wp2
        go_roundw
        case rel =>
          refine ⟨k + 1, by omega, by go_num, ?_⟩
          rw [H.out, List.map_append]
          simp only [List.map_cons, List.map_nil]
          rw [← hexLit (s[k].toNat / 16) (by omega) (by show _ < 16; omega), ← hexLit (s[k].toNat % 16) (by omega) (by show _ < 16; omega)]
          exact hB2
        case measure => simp [intOf]; omega
    · have hcv := buf_string (t := 37) (d := 9) elU8.sl Try.underlying5 Try.underlying9 hBr
      go_wp2
      go_ret
      refine ⟨?_, hBr.bel⟩
      rw [take_end s k hlt]; rfl
end Go.Proofs.Ytndehfkamfmmeaa
