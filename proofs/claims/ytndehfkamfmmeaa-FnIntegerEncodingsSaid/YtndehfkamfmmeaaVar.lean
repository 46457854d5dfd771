/-
  EncodeVarint of both packages, walked.
-/
import Derived.Test.YtndehfkamfmmeaaHexI
import Derived.Test.YtndehfkamfmmeaaOps
namespace Go.Proofs.Ytndehfkamfmmeaa
open Go.RowKit
/-- The bytes of a varint; f: at most so many. -/
def encV : Nat → Nat → List Int
  | 0, _ => []
  | f + 1, n => if n < 128 then [(n : Int)] else ((n % 128 + 128 : Nat) : Int) :: encV f (n / 128)
theorem encV_small (f n : Nat) (h : n < 128) : encV (f + 1) n = [(n : Int)] := by simp [encV, h]
theorem encV_big (f n : Nat) (h : ¬ n < 128) : encV (f + 1) n = ((n % 128 + 128 : Nat) : Int) :: encV f (n / 128) := by simp [encV, h]

set_option maxHeartbeats 400000 in
theorem encodeVarintI_yes (n0 : Nat) (w : World) (hn : n0 ≤ 562949953421311) : Calls Try.prog 51 #[.int .i64 n0] w fun e w' => e = .returned (.string (strOfNums (encV 8 n0))) ∧ Below w.heap.size w w' := by
  have hlit := Buf.lit (w0 := w) (e := 5) (Below.refl _ w) [] (by decide)
  go_enter Try.func51, Try.ntmps51
  go_wp2_with (go_at_call 63; refine (within_yes _ _ _ _ (by omega) (by omega)).mono ?_; rintro e w' ⟨rfl, rfl⟩)
  go_loopw [3, 0] (fun v i wr => ∃ (f n : Nat) (xs : List Int), i = .int .i64 n ∧ Hid (n < 128 ^ (f + 1)) ∧ n ≤ n0 ∧ f + xs.length = 7 ∧ Hid (xs ++ encV (f + 1) n = encV 8 n0) ∧ Buf w wr 5 v (xs.map (Value.int .u8))) (fun _ i _ => (intOf i).toNat)
  case atStart => exact ⟨7, n0, [], rfl, (by show n0 < 128 ^ 8; omega), by omega, rfl, rfl, hlit⟩
  case round =>
    obtain ⟨f, n, xs, rfl, hf, hn2, hx, H, hBr⟩ := hrel
    have hxl : (xs.map (Value.int .u8)).length ≤ 7 := by simp; omega
    by_cases hlt : 127 < n
    · have ha := and127 n (by omega)
      have ho := or128 n
      have hm : ((n : Int) % 128 + 128) % 256 = (n : Int) % 128 + 128 := by omega
      go_wp2_with (at_builtin; refine buf_append1 elU8 rfl _ _ rfl hBr rfl rfl rfl (by omega) ?_; intro v2 w2 hB2 _ _)
      go_roundw
      case rel =>
        match f, hx, hf, H with
        | 0, _, hf, _ => have := hf.out; omega
        | f + 1, hx, hf, H => exact ⟨f, n / 128, xs ++ [((n % 128 + 128 : Nat) : Int)], by go_num, (by have h1 := hf.out; rw [Nat.pow_succ] at h1; show _ < _; omega), by omega, by simp; omega, by have := H.out; rw [encV_big _ _ (by omega)] at this; rw [List.append_assoc]; exact this, by rw [List.map_append]; exact hB2⟩
      case measure => simp [intOf]; omega
    · have hm : (n : Int) % 256 = (n : Int) := by omega
      have hE : Hid (xs ++ [(n : Int)] = encV 8 n0) := by have := H.out; rw [encV_small _ _ (by omega)] at this; exact this
      go_wp2_with (at_builtin; refine buf_append1 elU8 rfl _ _ rfl hBr rfl rfl rfl (by omega) ?_; intro v2 w2 hB2 _ _; have hcv := buf_string (t := 37) (d := 9) (l := xs ++ [(n : Int)]) elU8.sl Try.underlying5 Try.underlying9 (by rw [List.map_append]; exact hB2))
      go_ret
      refine ⟨?_, hB2.bel⟩
      rw [← hE.out]; rfl

theorem encodeVarintI_no (n : Int) (w : World) (h : n < 0 ∨ 562949953421311 < n) : Calls Try.prog 51 #[.int .i64 n] w fun e w' => e = .returned (.string ByteArray.empty) ∧ Below w.heap.size w w' := by
  go_enter Try.func51, Try.ntmps51
  go_wp2_with (go_at_call 63; refine (within_no _ _ _ _ h).mono ?_; rintro e w' ⟨rfl, rfl⟩)
  go_ret
  exact ⟨rfl, Below.refl _ _⟩

end Go.Proofs.Ytndehfkamfmmeaa
