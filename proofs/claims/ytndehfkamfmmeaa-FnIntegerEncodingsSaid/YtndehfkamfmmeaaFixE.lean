/-
  EncodeFixed of both packages, walked.
-/
import Derived.Test.YtndehfkamfmmeaaHexI
import Derived.Test.YtndehfkamfmmeaaOps
namespace Go.Proofs.Ytndehfkamfmmeaa
open Go.RowKit
/-- The last r bytes of n, the most significant one first. -/
def lowB (n : Nat) : Nat → List Int
  | 0 => []
  | r + 1 => ((n / 256 ^ r % 256 : Nat) : Int) :: lowB n r
theorem len_lowB (n r : Nat) : (lowB n r).length = r := by induction r with | zero => rfl | succ r ih => simp [lowB, ih]
theorem and255 (n : Nat) (h : n < 9223372036854775808) : bits BinOp.and IntKind.i64 (n : Int) 255 = (n : Int) % 256 := by
  rw [show (255 : Int) = ((255 : Nat) : Int) from rfl, and_i64 n 255 h (by decide), nat_mask8]; rfl

theorem shl_width (m : Nat) (h2 : m ≤ 7) : wrap64 (2 ^ (8 * m)) = ((256 ^ m : Nat) : Int) := by
  have : m = 0 ∨ m = 1 ∨ m = 2 ∨ m = 3 ∨ m = 4 ∨ m = 5 ∨ m = 6 ∨ m = 7 := by omega
  rcases this with rfl | rfl | rfl | rfl | rfl | rfl | rfl | rfl <;> rw [IntWalk.wrap64_in _ (by decide)] <;> rfl

theorem set_last (k : Nat) (y : Int) (l : List Int) : (List.replicate (k + 1) 0 ++ l).set k y = List.replicate k 0 ++ y :: l := by
  induction k with
  | zero => rfl
  | succ k ih => rw [List.replicate_succ, List.cons_append, List.set_cons_succ, ih]; rfl

set_option maxRecDepth 100000 in
set_option maxHeartbeats 400000 in
theorem encodeFixedI_yes (n0 m : Nat) (w : World) (h1 : 1 ≤ m) (h2 : m ≤ 7) (h3 : n0 < 256 ^ m) : Calls Try.prog 54 #[.int .i64 n0, .int .i64 m] w fun e w' => e = .returned (.string (strOfNums (lowB n0 m))) ∧ Below w.heap.size w w' := by
  have hn : n0 < 72057594037927936 := Nat.lt_of_lt_of_le h3 (Nat.le_trans (Nat.pow_le_pow_right (by decide) h2) (by decide))
  have hd : decide (wrap64 (2 ^ (8 * m)) ≤ (n0 : Int)) = false := by rw [shl_width m h2]; simp only [decide_eq_false_iff_not]; omega
  have hz : decide ((n0 : Int) < 0) = false := by simp only [decide_eq_false_iff_not]; omega
  clear h3
  go_enter Try.func54, Try.ntmps54
  go_wp2_with (first | (go_at_call 63; refine (within_yes _ _ _ _ (by omega) (by omega)).mono ?_; rintro e w' ⟨rfl, rfl⟩) | (at_make; refine buf_make elU8 (Below.refl w.heap.size w) m (by omega) rfl _ _ rfl _ _ _ _ rfl rfl rfl rfl ?_; intro w1 hB _))
  go_loopw [6, 0] (fun i n wr => ∃ r : Nat, r ≤ m ∧ i = .int .i64 ((m : Int) - 1 - r) ∧ n = .int .i64 ((n0 / 256 ^ r : Nat) : Int) ∧ Buf w wr 5 (.slice (some ⟨w.heap.size, 0, none⟩) m m) ((List.replicate (m - r) 0 ++ lowB n0 r).map (Value.int .u8))) (fun i _ _ => (intOf i + 1).toNat)
  case atStart => exact ⟨0, by omega, by go_num, by simp, by simpa [lowB] using hB⟩
  case round =>
    obtain ⟨r, hr, rfl, rfl, hBr⟩ := hrel
    by_cases hlt : r < m
    · obtain ⟨x, hx⟩ : ∃ x, x = n0 / 256 ^ r := ⟨_, rfl⟩
      have hxn : x < 72057594037927936 := by rw [hx]; exact Nat.lt_of_le_of_lt (Nat.div_le_self _ _) hn
      rw [← hx]
      obtain ⟨j, hj⟩ : ∃ j : Nat, (m : Int) - 1 - r = j := ⟨m - 1 - r, by omega⟩
      rw [hj]
      have hjm : j < m := by omega
      have hc := hBr.cellAt j hjm
      have hf := hBr.frozenAt j
      have HX := Lib.hid hx
      have HJ := Lib.hid hj
      have ha := and255 x (by omega)
      have hxs := hBr.set j (.int .u8 ((x : Int) % 256))
      obtain ⟨u, hu⟩ : ∃ u, ((List.replicate (m - r) (0 : Int) ++ lowB n0 r).map (Value.int .u8))[j]? = some u := ⟨_, List.getElem?_eq_getElem (by simp [len_lowB]; omega)⟩
      rw [hu] at hc
      clear hx hj hu
      go_wp2
      go_roundw
      case rel =>
        refine ⟨r + 1, by omega, by have := HJ.out; go_num, by rw [HX.out, Nat.pow_succ, ← Nat.div_div_eq_div_mul]; go_num, ?_⟩
        have e : (List.replicate (m - (r + 1)) 0 ++ lowB n0 (r + 1)).map (Value.int .u8) = ((List.replicate (m - r) 0 ++ lowB n0 r).map (Value.int .u8)).set j (.int .u8 ((x : Int) % 256)) := by
          have ej : j = m - (r + 1) := by have := HJ.out; omega
          have er : m - r = (m - (r + 1)) + 1 := by omega
          rw [er, ← ej, ← List.map_set, lowB, ← HX.out, set_last]; rfl
        rw [e]; exact hxs
      case measure => simp [intOf]
    · obtain rfl : r = m := by omega
      rw [Nat.sub_self, List.replicate_zero, List.nil_append] at hBr
      have hcv := buf_string (t := 37) (d := 9) elU8.sl Try.underlying5 Try.underlying9 hBr
      go_wp2
      go_ret
      exact ⟨rfl, hBr.bel⟩

set_option maxRecDepth 100000 in
theorem encodeFixedI_no (n m : Int) (w : World) (h : m < 1 ∨ 7 < m ∨ n < 0) : Calls Try.prog 54 #[.int .i64 n, .int .i64 m] w fun e w' => e = .returned (.string ByteArray.empty) ∧ Below w.heap.size w w' := by
  by_cases hm : m < 1 ∨ 7 < m
  · clear h
    go_enter Try.func54, Try.ntmps54
    go_wp2_with (go_at_call 63; refine (within_no _ _ _ _ hm).mono ?_; rintro e w' ⟨rfl, rfl⟩)
    go_ret
    exact ⟨rfl, Below.refl _ _⟩
  · have hn : n < 0 := by omega
    have h1 : 1 ≤ m := by omega
    have h2 : m ≤ 7 := by omega
    have hz : decide (n < 0) = true := by simp only [decide_eq_true_eq]; omega
    clear h hm
    go_enter Try.func54, Try.ntmps54
    go_wp2_with (go_at_call 63; refine (within_yes _ _ _ _ h1 h2).mono ?_; rintro e w' ⟨rfl, rfl⟩)
    go_ret
    exact ⟨rfl, Below.refl _ _⟩
set_option maxRecDepth 100000 in
theorem encodeFixedI_big (n0 m : Nat) (w : World) (h1 : 1 ≤ m) (h2 : m ≤ 7) (h3 : 256 ^ m ≤ n0) (hn : n0 < 9223372036854775808) : Calls Try.prog 54 #[.int .i64 n0, .int .i64 m] w fun e w' => e = .returned (.string ByteArray.empty) ∧ Below w.heap.size w w' := by
  have hd : decide (wrap64 (2 ^ (8 * m)) ≤ (n0 : Int)) = true := by rw [shl_width m h2]; simp only [decide_eq_true_eq]; omega
  have hz : decide ((n0 : Int) < 0) = false := by simp only [decide_eq_false_iff_not]; omega
  clear h3
  go_enter Try.func54, Try.ntmps54
  go_wp2_with (go_at_call 63; refine (within_yes _ _ _ _ (by omega) (by omega)).mono ?_; rintro e w' ⟨rfl, rfl⟩)
  go_ret
  exact ⟨rfl, Below.refl _ _⟩

set_option maxRecDepth 100000 in
set_option maxHeartbeats 400000 in
theorem encodeFixedS_yes (n0 m : Nat) (w : World) (h1 : 1 ≤ m) (h2 : m ≤ 7) (h3 : n0 < 9223372036854775808) : Calls Try.prog 56 #[.int .i64 n0, .int .i64 m] w fun e w' => e = .returned (.string (if n0 < 256 ^ m then strOfNums (lowB n0 m) else ByteArray.empty)) ∧ Below w.heap.size w w' := by
  have hz : decide ((n0 : Int) < 0) = false := by simp only [decide_eq_false_iff_not]; omega
  go_enter Try.func56, Try.ntmps56
  go_wp2_with (first | (go_at_call 62; refine (in_yes _ _ _ _ (by omega) (by omega)).mono ?_; rintro e w' ⟨rfl, rfl⟩))
  go_loopw [5, 6, 0] (fun o i n wr => ∃ r : Nat, r ≤ m ∧ i = .int .i64 (r : Int) ∧ n = .int .i64 ((n0 / 256 ^ r : Nat) : Int) ∧ o = .string (strOfNums (lowB n0 r)) ∧ Below w.heap.size w wr) (fun _ i _ _ => m - (intOf i).toNat)
  case atStart => exact ⟨0, by omega, by go_num, by simp, rfl, Below.refl _ _⟩
  case round =>
    obtain ⟨r, hr, rfl, rfl, rfl, hBr⟩ := hrel
    obtain ⟨x, hx⟩ : ∃ x, x = n0 / 256 ^ r := ⟨_, rfl⟩
    have hxn : x < 9223372036854775808 := by rw [hx]; exact Nat.lt_of_le_of_lt (Nat.div_le_self _ _) h3
    rw [← hx]
    have hs : (strOfNums (lowB n0 r)).size = r := by rw [strOfNums_size, len_lowB]
    have HC := Lib.hid (str_cons ((x : Int) % 256) (lowB n0 r))
    obtain ⟨o, ho⟩ : ∃ o, o = strOfNums (lowB n0 r) := ⟨_, rfl⟩
    rw [← ho] at hs HC ⊢
    have hs2 : o.size ≤ 7 := by omega
    have HX := Lib.hid hx
    have HO := Lib.hid ho
    clear hx hs ho
    by_cases hlt : r < m
    · have hcv := conv_one (t := 37) (e := 5) (d := 9) elU8.sl Try.underlying5 Try.underlying9 wr ((x : Int) % 256)
      have hs1 : (strOfNums [(x : Int) % 256]).size ≤ 1 := by rw [strOfNums_size]; exact Nat.le_refl _
      go_wp2
      go_roundw
      case rel => exact ⟨r + 1, by omega, by go_num, by rw [HX.out, Nat.pow_succ, ← Nat.div_div_eq_div_mul]; go_num, by rw [HC.out, HX.out]; rfl, hBr.alloc hBr.size _⟩
      case measure => simp [intOf]; omega
    · obtain rfl : r = m := by omega
      have hpos : 0 < 256 ^ r := Nat.pow_pos (by decide)
      by_cases h0 : 0 < x
      · have HF : Hid (¬ n0 < 256 ^ r) := by have := HX.out; intro hlt2; rw [Nat.div_eq_of_lt hlt2] at this; omega
        go_wp2
        go_ret
        exact ⟨rfl, hBr⟩
      · have HF : Hid (n0 < 256 ^ r) := by
          have := HX.out
          rcases Nat.lt_or_ge n0 (256 ^ r) with h | h
          · exact h
          · have := Nat.div_pos h hpos; omega
        go_wp2
        go_ret
        exact ⟨by rw [← HO.out]; rfl, hBr⟩

theorem encodeFixedS_no (n m : Int) (w : World) (h : m < 1 ∨ 7 < m ∨ n < 0) : Calls Try.prog 56 #[.int .i64 n, .int .i64 m] w fun e w' => e = .returned (.string ByteArray.empty) ∧ Below w.heap.size w w' := by
  by_cases hm : m < 1 ∨ 7 < m
  · clear h
    go_enter Try.func56, Try.ntmps56
    go_wp2_with (go_at_call 62; refine (in_no _ _ _ _ hm).mono ?_; rintro e w' ⟨rfl, rfl⟩)
    go_ret
    exact ⟨rfl, Below.refl _ _⟩
  · have hn : n < 0 := by omega
    have h1 : 1 ≤ m := by omega
    have h2 : m ≤ 7 := by omega
    have hz : decide (n < 0) = true := by simp only [decide_eq_true_eq]; omega
    clear h hm
    go_enter Try.func56, Try.ntmps56
    go_wp2_with (go_at_call 62; refine (in_yes _ _ _ _ h1 h2).mono ?_; rintro e w' ⟨rfl, rfl⟩)
    go_ret
    exact ⟨rfl, Below.refl _ _⟩

end Go.Proofs.Ytndehfkamfmmeaa
