/-
  UnrankPath and NextPath of both packages and their laws, walked.
-/
import Derived.Test.YtfpdkjoimmociaaRank
import Derived.Test.YtfpdkjoimmociaaRev
import Derived.Test.YtfpdkjoimmociaaPath1
namespace Go.Proofs.Ytfpdkjoimmociaa
open Go.RowKit
/-- The path of so many letters u and d with that rank; f: so many letters are left. -/
def unr : Nat → Nat → Nat → Int → List Int
  | 0, _, _, _ => []
  | f + 1, up, down, k => if k < (if up = 0 then 0 else balV (up - 1) down) then 117 :: unr f (up - 1) down k else 100 :: unr f up (down - 1) (k - (if up = 0 then 0 else balV (up - 1) down))
theorem unr_u (f up down : Nat) (k : Int) (h : k < balV up down) : unr (f + 1) (up + 1) down k = 117 :: unr f up down k := by
  simp only [unr, if_neg (show ¬ up + 1 = 0 by omega), Nat.add_sub_cancel, if_pos h]
theorem unr_d (f up down : Nat) (k : Int) (h : ¬ k < balV up (down + 1)) : unr (f + 1) (up + 1) (down + 1) k = 100 :: unr f (up + 1) down (k - balV up (down + 1)) := by
  simp only [unr, if_neg (show ¬ up + 1 = 0 by omega), Nat.add_sub_cancel, if_neg h]
theorem unr_d0 (f down : Nat) (k : Int) (h : ¬ k < 0) : unr (f + 1) 0 (down + 1) k = 100 :: unr f 0 down k := by
  simp only [unr, if_pos, if_neg h, Nat.add_sub_cancel, Int.sub_zero]
def balN (u d : Nat) : Nat := (rows d u).getD d 0
theorem bal_zero : ∀ d, d < 9 → balN 0 d = 1 := by decide +kernel
theorem bal_step : ∀ u, u < 8 → ∀ d, d < 8 → u + 1 ≤ d → balN (u + 1) (d + 1) = balN u (d + 1) + balN (u + 1) d := by decide +kernel
theorem bal_diag : ∀ u, u < 8 → balN (u + 1) (u + 1) = balN u (u + 1) := by decide +kernel
theorem balV_N (u d : Nat) : balV u d = (balN u d : Int) := rfl

set_option maxRecDepth 100000 in
set_option maxHeartbeats 1000000 in
theorem unrankI_yes (n : Nat) (k0 : Int) (w : World) (hn : n ≤ 8) (h0 : 0 ≤ k0) (h1 : k0 < balV n n) : Calls Try.prog 63 #[.int .i64 n, .int .i64 k0] w fun e w' => e = .returned (.tuple #[.string (strOfNums (unr (n + n) n n k0)), .bool true]) ∧ Below w.heap.size w w' := by
  have HC := Lib.hid (fun w => catI_yes n w (by omega))
  have hbd := balV_range n n (by omega) (by omega)
  have H1 := Lib.hid h1
  obtain ⟨B, hB⟩ : ∃ B, B = balV n n := ⟨_, rfl⟩
  rw [← hB] at HC hbd h1
  have hB1 := hbd.2
  clear hB hbd
  go_enter Try.func63, Try.ntmps63
  go_wp2_with fail
  refine (within_yes _ _ _ _ (by omega) (by omega)).mono ?_
  rintro e w' ⟨rfl, rfl⟩
  go_wp2_with fail
  refine (HC.out _).mono ?_
  rintro e w1 ⟨rfl, hb1⟩
  go_wp2_with fail
  refine (within_yes _ _ _ _ (by omega) (by omega)).mono ?_
  rintro e w' ⟨rfl, rfl⟩
  go_wp2_with fail
  have hlit := Buf.lit (w0 := w) (e := 5) hb1 [] (by decide)
  go_loopw [6, 7, 8, 1, 9] (fun v u d kk _ wr => ∃ (up hh : Nat) (k : Int) (pre : List Int), up + hh ≤ n ∧ u = .int .i64 (up : Int) ∧ d = .int .i64 ((up : Int) + (hh : Int)) ∧ kk = .int .i64 k ∧ 0 ≤ k ∧ k ≤ 100000000 ∧ pre.length + up + (up + hh) = n + n ∧ Hid (k < balV up (up + hh)) ∧ Hid (pre ++ unr (up + (up + hh)) up (up + hh) k = unr (n + n) n n k0) ∧ Buf w wr 5 v (pre.map (Value.int .u8))) (fun _ u d _ _ _ => (intOf u + intOf d).toNat)
  case atStart => exact ⟨n, 0, k0, [], by omega, rfl, by go_num, rfl, h0, by omega, by simp, H1.out, rfl, hlit⟩
  case round =>
    obtain ⟨up, hh, k, pre, huh, rfl, rfl, rfl, hk0, hk1, hpl, HK, HU, hBr⟩ := hrel
    have hxl : (pre.map (Value.int .u8)).length ≤ 16 := by simp; omega
    rcases up with _ | up
    · rcases hh with _ | hh
      · have HF : Hid (pre = unr (n + n) n n k0) := by
          have h1 := HU.out
          have h2 : pre = unr (n + n) n n k0 := by simpa [unr] using h1
          exact h2
        have hcv := buf_string (t := 41) (d := 9) elU8.sl Try.underlying5 Try.underlying9 hBr
        go_wp2
        go_ret2
        exact ⟨by rw [← HF.out]; rfl, hBr.bel⟩
      · have hk := HK.out
        rw [Nat.zero_add, balV_N, bal_zero (hh + 1) (by omega)] at hk
        have hkz : ¬ k < 0 := by omega
        have HK2 : Hid (k < balV 0 (0 + hh)) := by show _ < _; rw [Nat.zero_add, balV_N, bal_zero hh (by omega)]; exact hk
        have HU2 : Hid ((pre ++ [100]) ++ unr (0 + (0 + hh)) 0 (0 + hh) k = unr (n + n) n n k0) := by
          have := HU.out
          rw [show 0 + (0 + (hh + 1)) = (0 + (0 + hh)) + 1 by omega, show 0 + (hh + 1) = (0 + hh) + 1 by omega, unr_d0 _ _ _ hkz] at this
          show _ = _; rw [← this]; simp
        rw [show ((0 : Nat) : Int) = 0 from rfl, show ((hh + 1 : Nat) : Int) = (hh : Int) + 1 from rfl]
        clear hk HK HU
        go_wp2_with (at_builtin; refine buf_append1 elU8 rfl _ _ rfl hBr rfl rfl rfl (by omega) ?_; intro v2 w2 hB2 _ _)
        go_roundw
        case rel => exact ⟨0, hh, k, pre ++ [100], by omega, rfl, by go_num, by go_num, by omega, by omega, by simp; omega, HK2, HU2, by rw [List.map_append]; exact hB2⟩
        case measure => simp [intOf]
    · have hFb := balV_range up (up + 1 + hh) (by omega) (by omega)
      have HC := Lib.hid (fun w => ballotI_yes up (up + 1 + hh) w (by omega) (by omega))
      obtain ⟨F, hF⟩ : ∃ F, F = balV up (up + 1 + hh) := ⟨_, rfl⟩
      rw [← hF] at hFb HC
      rw [show ((up + 1 + hh : Nat) : Int) = (up : Int) + 1 + (hh : Int) from by omega] at HC
      have hF1 := hFb.1
      have hF2 := hFb.2
      rw [show ((up + 1 : Nat) : Int) = (up : Int) + 1 from rfl]
      by_cases hkF : k < F
      · have HK2 : Hid (k < balV up (up + (hh + 1))) := by show _ < _; rw [show up + (hh + 1) = up + 1 + hh by omega, ← hF]; exact hkF
        have HU2 : Hid ((pre ++ [117]) ++ unr (up + (up + (hh + 1))) up (up + (hh + 1)) k = unr (n + n) n n k0) := by
          have := HU.out
          rw [show up + 1 + (up + 1 + hh) = (up + (up + (hh + 1))) + 1 by omega, unr_u _ _ _ _ (by rw [← hF]; exact hkF), show up + 1 + hh = up + (hh + 1) by omega] at this
          show _ = _; rw [← this]; simp
        clear HK HU hF hFb
        go_wp2_with (first | (go_at_call 96; refine (HC.out _).mono ?_; rintro e w2 ⟨rfl, hb2⟩) | (at_builtin; refine buf_append1 elU8 rfl _ _ rfl (hBr.after hb2) rfl rfl rfl (by omega) ?_; intro v3 w3 hB3 _ _))
        go_roundw
        case rel => exact ⟨up, hh + 1, k, pre ++ [117], by omega, by go_num, by go_num, rfl, by omega, by omega, by simp; omega, HK2, HU2, by rw [List.map_append]; exact hB3⟩
        case measure => simp [intOf]; omega
      · rcases hh with _ | hh
        · have hk := HK.out
          rw [Nat.add_zero, balV_N, bal_diag up (by omega), ← balV_N] at hk
          rw [Nat.add_zero] at hF
          omega
        · have HK2 : Hid (k - F < balV (up + 1) (up + 1 + hh)) := by
            have hk := HK.out
            rw [show up + 1 + (hh + 1) = (up + 1 + hh) + 1 by omega, balV_N, bal_step up (by omega) (up + 1 + hh) (by omega) (by omega), Int.natCast_add, ← balV_N, ← balV_N, show up + 1 + hh + 1 = up + 1 + (hh + 1) by omega, ← hF] at hk
            show _ < _; omega
          have HU2 : Hid ((pre ++ [100]) ++ unr (up + 1 + (up + 1 + hh)) (up + 1) (up + 1 + hh) (k - F) = unr (n + n) n n k0) := by
            have := HU.out
            rw [show up + 1 + (up + 1 + (hh + 1)) = (up + 1 + (up + 1 + hh)) + 1 by omega, show up + 1 + (hh + 1) = (up + 1 + hh) + 1 by omega, unr_d _ _ _ _ (by rw [show up + 1 + hh + 1 = up + 1 + (hh + 1) by omega, ← hF]; exact hkF), show up + 1 + hh + 1 = up + 1 + (hh + 1) by omega, ← hF] at this
            show _ = _; rw [← this]; simp
          rw [show ((hh + 1 : Nat) : Int) = (hh : Int) + 1 from rfl] at HC ⊢
          clear HK HU hF hFb
          go_wp2_with (first | (go_at_call 96; refine (HC.out _).mono ?_; rintro e w2 ⟨rfl, hb2⟩) | (at_builtin; refine buf_append1 elU8 rfl _ _ rfl (hBr.after hb2) rfl rfl rfl (by omega) ?_; intro v3 w3 hB3 _ _))
          go_roundw
          case rel => exact ⟨up + 1, hh, k - F, pre ++ [100], by omega, by go_num, by go_num, rfl, by omega, by omega, by simp; omega, HK2, HU2, by rw [List.map_append]; exact hB3⟩
          case measure => simp [intOf]; omega
set_option maxRecDepth 100000 in
theorem unrankI_out (n : Int) (k : Int) (w : World) (h : n < 0 ∨ 8 < n) : Calls Try.prog 63 #[.int .i64 n, .int .i64 k] w fun e w' => e = .returned (.tuple #[.string ByteArray.empty, .bool false]) ∧ Below w.heap.size w w' := by
  go_enter Try.func63, Try.ntmps63
  go_wp2_with (go_at_call 91; refine (within_no _ _ _ _ h).mono ?_; rintro e w' ⟨rfl, rfl⟩)
  go_ret2
  exact ⟨rfl, Below.refl _ _⟩
set_option maxRecDepth 100000 in
theorem unrankI_no (n : Nat) (k : Int) (w : World) (hn : n ≤ 8) (h : k < 0 ∨ balV n n ≤ k) : Calls Try.prog 63 #[.int .i64 n, .int .i64 k] w fun e w' => e = .returned (.tuple #[.string ByteArray.empty, .bool false]) ∧ Below w.heap.size w w' := by
  have HC := Lib.hid (fun w => catI_yes n w (by omega))
  have hbd := balV_range n n (by omega) (by omega)
  obtain ⟨B, hB⟩ : ∃ B, B = balV n n := ⟨_, rfl⟩
  rw [← hB] at HC hbd h
  have hB1 := hbd.1
  have hB2 := hbd.2
  have H1 : Hid (k < 0 ∨ B - 1 < k) := by show _ ∨ _; omega
  clear hB hbd h
  go_enter Try.func63, Try.ntmps63
  go_wp2_with fail
  refine (within_yes _ _ _ _ (by omega) (by omega)).mono ?_
  rintro e w' ⟨rfl, rfl⟩
  go_wp2_with fail
  refine (HC.out _).mono ?_
  rintro e w1 ⟨rfl, hb1⟩
  go_wp2_with fail
  refine (within_no _ _ _ _ H1.out).mono ?_
  rintro e w' ⟨rfl, rfl⟩
  go_wp2_with fail
  go_ret2
  exact ⟨rfl, hb1⟩
set_option maxRecDepth 100000 in
set_option maxHeartbeats 1000000 in
theorem unrankS_yes (n : Nat) (k0 : Int) (w : World) (hn : n ≤ 8) (h0 : 0 ≤ k0) (h1 : k0 < balV n n) : Calls Try.prog 62 #[.int .i64 n, .int .i64 k0] w fun e w' => e = .returned (.tuple #[.string (strOfNums (unr (n + n) n n k0)), .bool true]) ∧ Below w.heap.size w w' := by
  have HC := Lib.hid (fun w => catS_yes n w (by omega))
  have hbd := balV_range n n (by omega) (by omega)
  have H1 := Lib.hid h1
  obtain ⟨B, hB⟩ : ∃ B, B = balV n n := ⟨_, rfl⟩
  rw [← hB] at HC hbd h1
  have hB1 := hbd.2
  clear hB hbd
  go_enter Try.func62, Try.ntmps62
  go_wp2_with fail
  refine (in_yes _ _ _ _ (by omega) (by omega)).mono ?_
  rintro e w' ⟨rfl, rfl⟩
  go_wp2_with fail
  refine (HC.out _).mono ?_
  rintro e w1 ⟨rfl, hb1⟩
  go_wp2_with fail
  have ha : ∀ (pre : List Int) (x : Int), strOfNums (pre ++ [x]) = strOfNums pre ++ strOfNums [x] := fun pre x => (strOfNums_app _ _).symm
  go_loopw [6, 7, 8, 1] (fun v u d kk wr => ∃ (up hh : Nat) (k : Int) (pre : List Int), up + hh ≤ n ∧ u = .int .i64 (up : Int) ∧ d = .int .i64 ((up : Int) + (hh : Int)) ∧ kk = .int .i64 k ∧ 0 ≤ k ∧ k ≤ 100000000 ∧ pre.length + up + (up + hh) = n + n ∧ Hid (k < balV up (up + hh)) ∧ Hid (pre ++ unr (up + (up + hh)) up (up + hh) k = unr (n + n) n n k0) ∧ v = .string (strOfNums pre) ∧ Below w.heap.size w wr) (fun _ u d _ _ => (intOf u + intOf d).toNat)
  case atStart => exact ⟨n, 0, k0, [], by omega, rfl, by go_num, rfl, h0, by omega, by simp, H1.out, rfl, rfl, hb1⟩
  case round =>
    obtain ⟨up, hh, k, pre, huh, rfl, rfl, rfl, hk0, hk1, hpl, HK, HU, rfl, hbr⟩ := hrel
    have hxl : (strOfNums pre).size ≤ 16 := by rw [strOfNums_size]; omega
    have ha1 := Lib.hid (ha pre 117)
    have ha2 := Lib.hid (ha pre 100)
    rcases up with _ | up
    · rcases hh with _ | hh
      · have HF : Hid (pre = unr (n + n) n n k0) := by
          have h1 := HU.out
          have h2 : pre = unr (n + n) n n k0 := by simpa [unr] using h1
          exact h2
        clear ha1 ha2
        go_wp2
        go_ret2
        exact ⟨by rw [← HF.out]; rfl, hbr⟩
      · have hk := HK.out
        rw [Nat.zero_add, balV_N, bal_zero (hh + 1) (by omega)] at hk
        have hkz : ¬ k < 0 := by omega
        have HK2 : Hid (k < balV 0 (0 + hh)) := by show _ < _; rw [Nat.zero_add, balV_N, bal_zero hh (by omega)]; exact hk
        have HU2 : Hid ((pre ++ [100]) ++ unr (0 + (0 + hh)) 0 (0 + hh) k = unr (n + n) n n k0) := by
          have := HU.out
          rw [show 0 + (0 + (hh + 1)) = (0 + (0 + hh)) + 1 by omega, show 0 + (hh + 1) = (0 + hh) + 1 by omega, unr_d0 _ _ _ hkz] at this
          show _ = _; rw [← this]; simp
        rw [show ((0 : Nat) : Int) = 0 from rfl, show ((hh + 1 : Nat) : Int) = (hh : Int) + 1 from rfl]
        clear hk HK HU
        go_wp2
        go_roundw
        case rel => exact ⟨0, hh, k, pre ++ [100], by omega, rfl, by go_num, by go_num, by omega, by omega, by simp; omega, HK2, HU2, by rw [ha2.out]; rfl, hbr⟩
        case measure => simp [intOf]
    · have hFb := balV_range up (up + 1 + hh) (by omega) (by omega)
      have HC := Lib.hid (fun w => waysS up (up + 1 + hh) w (by omega) (by omega))
      obtain ⟨F, hF⟩ : ∃ F, F = balV up (up + 1 + hh) := ⟨_, rfl⟩
      rw [← hF] at hFb HC
      rw [show ((up + 1 + hh : Nat) : Int) = (up : Int) + 1 + (hh : Int) from by omega] at HC
      have hF1 := hFb.1
      have hF2 := hFb.2
      rw [show ((up + 1 : Nat) : Int) = (up : Int) + 1 from rfl]
      by_cases hkF : k < F
      · have HK2 : Hid (k < balV up (up + (hh + 1))) := by show _ < _; rw [show up + (hh + 1) = up + 1 + hh by omega, ← hF]; exact hkF
        have HU2 : Hid ((pre ++ [117]) ++ unr (up + (up + (hh + 1))) up (up + (hh + 1)) k = unr (n + n) n n k0) := by
          have := HU.out
          rw [show up + 1 + (up + 1 + hh) = (up + (up + (hh + 1))) + 1 by omega, unr_u _ _ _ _ (by rw [← hF]; exact hkF), show up + 1 + hh = up + (hh + 1) by omega] at this
          show _ = _; rw [← this]; simp
        clear HK HU hF hFb
        go_wp2_with (go_at_call 94; refine (HC.out _).mono ?_; rintro e w2 ⟨rfl, hb2⟩)
        go_roundw
        case rel => exact ⟨up, hh + 1, k, pre ++ [117], by omega, by go_num, by go_num, rfl, by omega, by omega, by simp; omega, HK2, HU2, by rw [ha1.out]; rfl, below_then hbr hb2⟩
        case measure => simp [intOf]; omega
      · rcases hh with _ | hh
        · have hk := HK.out
          rw [Nat.add_zero, balV_N, bal_diag up (by omega), ← balV_N] at hk
          rw [Nat.add_zero] at hF
          omega
        · have HK2 : Hid (k - F < balV (up + 1) (up + 1 + hh)) := by
            have hk := HK.out
            rw [show up + 1 + (hh + 1) = (up + 1 + hh) + 1 by omega, balV_N, bal_step up (by omega) (up + 1 + hh) (by omega) (by omega), Int.natCast_add, ← balV_N, ← balV_N, show up + 1 + hh + 1 = up + 1 + (hh + 1) by omega, ← hF] at hk
            show _ < _; omega
          have HU2 : Hid ((pre ++ [100]) ++ unr (up + 1 + (up + 1 + hh)) (up + 1) (up + 1 + hh) (k - F) = unr (n + n) n n k0) := by
            have := HU.out
            rw [show up + 1 + (up + 1 + (hh + 1)) = (up + 1 + (up + 1 + hh)) + 1 by omega, show up + 1 + (hh + 1) = (up + 1 + hh) + 1 by omega, unr_d _ _ _ _ (by rw [show up + 1 + hh + 1 = up + 1 + (hh + 1) by omega, ← hF]; exact hkF), show up + 1 + hh + 1 = up + 1 + (hh + 1) by omega, ← hF] at this
            show _ = _; rw [← this]; simp
          rw [show ((hh + 1 : Nat) : Int) = (hh : Int) + 1 from rfl] at HC ⊢
          clear HK HU hF hFb
          go_wp2_with (go_at_call 94; refine (HC.out _).mono ?_; rintro e w2 ⟨rfl, hb2⟩)
          go_roundw
          case rel => exact ⟨up + 1, hh, k - F, pre ++ [100], by omega, by go_num, by go_num, rfl, by omega, by omega, by simp; omega, HK2, HU2, by rw [ha2.out]; rfl, below_then hbr hb2⟩
          case measure => simp [intOf]; omega
set_option maxRecDepth 100000 in
theorem unrankS_out (n : Int) (k : Int) (w : World) (h : n < 0 ∨ 8 < n) : Calls Try.prog 62 #[.int .i64 n, .int .i64 k] w fun e w' => e = .returned (.tuple #[.string ByteArray.empty, .bool false]) ∧ Below w.heap.size w w' := by
  go_enter Try.func62, Try.ntmps62
  go_wp2_with (go_at_call 81; refine (in_no _ _ _ _ h).mono ?_; rintro e w' ⟨rfl, rfl⟩)
  go_ret2
  exact ⟨rfl, Below.refl _ _⟩
set_option maxRecDepth 100000 in
theorem unrankS_no (n : Nat) (k : Int) (w : World) (hn : n ≤ 8) (h : k < 0 ∨ balV n n ≤ k) : Calls Try.prog 62 #[.int .i64 n, .int .i64 k] w fun e w' => e = .returned (.tuple #[.string ByteArray.empty, .bool false]) ∧ Below w.heap.size w w' := by
  by_cases hk : k < 0
  · clear h
    go_enter Try.func62, Try.ntmps62
    go_wp2_with (go_at_call 81; refine (in_yes _ _ _ _ (by omega) (by omega)).mono ?_; rintro e w' ⟨rfl, rfl⟩)
    go_ret2
    exact ⟨rfl, Below.refl _ _⟩
  · have HC := Lib.hid (fun w => catS_yes n w (by omega))
    obtain ⟨B, hB⟩ : ∃ B, B = balV n n := ⟨_, rfl⟩
    rw [← hB] at HC h
    have h2 : B ≤ k := by omega
    clear h hB
    go_enter Try.func62, Try.ntmps62
    go_wp2_with (first | (go_at_call 81; refine (in_yes _ _ _ _ (by omega) (by omega)).mono ?_; rintro e w' ⟨rfl, rfl⟩) | (go_at_call 93; refine (HC.out _).mono ?_; rintro e w2 ⟨rfl, hb2⟩))
    go_ret2
    exact ⟨rfl, hb2⟩
set_option maxRecDepth 100000 in
theorem law_FnExactUnrankPath (n k : Int) (w : World) (_ : (Lit.int .i64 n).wf = true) (_ : (Lit.int .i64 k).wf = true) : Calls Try.prog 16 #[.int .i64 n, .int .i64 k] w fun e w' => e = .returned (.bool true) ∧ Below w.heap.size w w' := by
  by_cases ho : n < 0 ∨ 8 < n
  · have HS := Lib.hid (fun w => unrankS_out n k w ho)
    have HI := Lib.hid (fun w => unrankI_out n k w ho)
    clear ho
    go_enter Try.func16, Try.ntmps16
    go_wp2_with fail
    refine (HS.out _).mono ?_
    rintro e w1 ⟨rfl, h1⟩
    go_wp2_with fail
    refine (HI.out _).mono ?_
    rintro e w2 ⟨rfl, h2⟩
    go_wp2_with fail
    go_ret
    exact ⟨rfl, below_then h1 h2⟩
  · obtain ⟨n, rfl⟩ : ∃ m : Nat, n = (m : Int) := ⟨n.toNat, by omega⟩
    by_cases hk : k < 0 ∨ balV n n ≤ k
    · have HS := Lib.hid (fun w => unrankS_no n k w (by omega) hk)
      have HI := Lib.hid (fun w => unrankI_no n k w (by omega) hk)
      clear ho hk
      go_enter Try.func16, Try.ntmps16
      go_wp2_with fail
      refine (HS.out _).mono ?_
      rintro e w1 ⟨rfl, h1⟩
      go_wp2_with fail
      refine (HI.out _).mono ?_
      rintro e w2 ⟨rfl, h2⟩
      go_wp2_with fail
      go_ret
      exact ⟨rfl, below_then h1 h2⟩
    · have HS := Lib.hid (fun w => unrankS_yes n k w (by omega) (by omega) (by omega))
      have HI := Lib.hid (fun w => unrankI_yes n k w (by omega) (by omega) (by omega))
      obtain ⟨o, hO⟩ : ∃ o, o = strOfNums (unr (n + n) n n k) := ⟨_, rfl⟩
      rw [← hO] at HS HI
      clear ho hk hO
      go_enter Try.func16, Try.ntmps16
      go_wp2_with fail
      refine (HS.out _).mono ?_
      rintro e w1 ⟨rfl, h1⟩
      go_wp2_with fail
      refine (HI.out _).mono ?_
      rintro e w2 ⟨rfl, h2⟩
      go_wp2_with fail
      go_ret
      exact ⟨rfl, below_then h1 h2⟩

def nextV (l : List UInt8) : Option (List Int) := if dyck l = true then (if rankV l + 1 < balV (l.length / 2) (l.length / 2) then some (unr (l.length / 2 + l.length / 2) (l.length / 2) (l.length / 2) (rankV l + 1)) else none) else none
def nextR (o : Option (List Int)) : Value := match o with
  | some xs => .tuple #[.string (strOfNums xs), .bool true]
  | none => .tuple #[.string ByteArray.empty, .bool false]
theorem rankGo_range : ∀ (l : List UInt8) (up d : Nat), up ≤ 15 → d ≤ 15 → 0 ≤ rankGo up d l ∧ rankGo up d l ≤ 100000000 * l.length := by
  intro l
  induction l with
  | nil => intro up d _ _; exact ⟨Int.le_refl _, by simp [rankGo]⟩
  | cons c r ih =>
    intro up d hu hd
    have h1 := ih (up - 1) d (by omega) hd
    have h2 := ih up (d - 1) hu (by omega)
    have h3 := balV_range (up - 1) d hd (by omega)
    simp only [rankGo, List.length_cons]
    split
    · omega
    · split <;> omega
theorem rankV_range (l : List UInt8) (hd : dyck l = true) : 0 ≤ rankV l ∧ rankV l ≤ 1600000000 := by
  have hl := dyck_len hd
  have := rankGo_range l (l.length / 2) (l.length / 2) (by omega) (by omega)
  rw [rankV_yes hd]; omega
set_option maxRecDepth 100000 in
theorem nextI (s : ByteArray) (w : World) (hs : s.size ≤ 1048576) : Calls Try.prog 67 #[.string s] w fun e w' => e = .returned (nextR (nextV s.data.toList)) ∧ Below w.heap.size w w' := by
  cases hd : dyck s.data.toList with
  | false =>
    have HV : Hid (nextV s.data.toList = none) := by show _ = _; unfold nextV; rw [hd]; rfl
    go_enter Try.func67, Try.ntmps67
    go_wp2_with (go_at_call 26; refine (isDyckI s _ hs).mono ?_; rintro e w1 ⟨rfl, hb⟩)
    go_ret2
    exact ⟨by rw [HV.out]; rfl, hb⟩
  | true =>
    have hs16 : s.data.toList.length ≤ 16 := dyck_len hd
    have hr := rankV_range _ hd
    have hlen : s.data.toList.length = s.size := by simp
    obtain ⟨k, hk⟩ : ∃ k, k = rankV s.data.toList := ⟨_, rfl⟩
    have HV : Hid (nextV s.data.toList = if k + 1 < balV (s.size / 2) (s.size / 2) then some (unr (s.size / 2 + s.size / 2) (s.size / 2) (s.size / 2) (k + 1)) else none) := by
      show _ = _; unfold nextV; rw [if_pos hd, hk, hlen]
    rw [← hk] at hr
    have hr1 := hr.1
    have hr2 := hr.2
    have HR := Lib.hid (fun w => rankI s w hs)
    rw [← hk] at HR
    have HZ := Lib.hid (fun w => sizeOfI s w hs)
    have hz : sizeV s.data.toList = ((s.size / 2 : Nat) : Int) := by unfold sizeV; rw [if_pos hd, hlen]; rfl
    rw [hz] at HZ
    obtain ⟨n, hn⟩ : ∃ n, n = s.size / 2 := ⟨_, rfl⟩
    rw [← hn] at HV HZ
    have hn8 : n ≤ 8 := by omega
    clear hk hz hr hlen hs16 hn
    by_cases hlt : k + 1 < balV n n
    · have HU := Lib.hid (fun w => unrankI_yes n (k + 1) w hn8 (by omega) hlt)
      have HV2 := Lib.hid (HV.out.trans (if_pos hlt))
      clear HV hlt
      go_enter Try.func67, Try.ntmps67
      go_wp2_with (first | (go_at_call 26; refine (isDyckI s _ hs).mono ?_; rintro e w1 ⟨rfl, hb⟩) | (go_at_call 28; refine (HZ.out _).mono ?_; rintro e w2 ⟨rfl, hb2⟩) | (go_at_call 65; refine (HR.out _).mono ?_; rintro e w3 ⟨rfl, hb3⟩) | (go_at_call 63; refine (HU.out _).mono ?_; rintro e w4 ⟨rfl, hb4⟩))
      go_ret2
      exact ⟨by rw [HV2.out]; rfl, below_then (below_then hb hb2) (below_then hb3 hb4)⟩
    · have HU := Lib.hid (fun w => unrankI_no n (k + 1) w hn8 (by omega))
      have HV2 := Lib.hid (HV.out.trans (if_neg hlt))
      clear HV hlt
      go_enter Try.func67, Try.ntmps67
      go_wp2_with (first | (go_at_call 26; refine (isDyckI s _ hs).mono ?_; rintro e w1 ⟨rfl, hb⟩) | (go_at_call 28; refine (HZ.out _).mono ?_; rintro e w2 ⟨rfl, hb2⟩) | (go_at_call 65; refine (HR.out _).mono ?_; rintro e w3 ⟨rfl, hb3⟩) | (go_at_call 63; refine (HU.out _).mono ?_; rintro e w4 ⟨rfl, hb4⟩))
      go_ret2
      exact ⟨by rw [HV2.out]; rfl, below_then (below_then hb hb2) (below_then hb3 hb4)⟩
set_option maxRecDepth 100000 in
theorem nextS (s : ByteArray) (w : World) (hs : s.size ≤ 1048576) : Calls Try.prog 66 #[.string s] w fun e w' => e = .returned (nextR (nextV s.data.toList)) ∧ Below w.heap.size w w' := by
  cases hd : dyck s.data.toList with
  | false =>
    have HV : Hid (nextV s.data.toList = none) := by show _ = _; unfold nextV; rw [hd]; rfl
    go_enter Try.func66, Try.ntmps66
    go_wp2_with (go_at_call 25; refine (isDyckS s _ hs).mono ?_; rintro e w1 ⟨rfl, rfl⟩)
    go_ret2
    exact ⟨by rw [HV.out]; rfl, Below.refl _ _⟩
  | true =>
    have hs16 : s.data.toList.length ≤ 16 := dyck_len hd
    have hr := rankV_range _ hd
    have hlen : s.data.toList.length = s.size := by simp
    obtain ⟨k, hk⟩ : ∃ k, k = rankV s.data.toList := ⟨_, rfl⟩
    have HV : Hid (nextV s.data.toList = if k + 1 < balV (s.size / 2) (s.size / 2) then some (unr (s.size / 2 + s.size / 2) (s.size / 2) (s.size / 2) (k + 1)) else none) := by
      show _ = _; unfold nextV; rw [if_pos hd, hk, hlen]
    rw [← hk] at hr
    have hr1 := hr.1
    have hr2 := hr.2
    have HR := Lib.hid (fun w => rankS s w hs)
    rw [← hk] at HR
    obtain ⟨n, hn⟩ : ∃ n, n = s.size / 2 := ⟨_, rfl⟩
    rw [← hn] at HV
    have hn8 : n ≤ 8 := by omega
    have e2 : (s.size : Int) / 2 = (n : Int) := by omega
    clear hk hr hlen hs16 hn
    by_cases hlt : k + 1 < balV n n
    · have HU := Lib.hid (fun w => unrankS_yes n (k + 1) w hn8 (by omega) hlt)
      have HV2 := Lib.hid (HV.out.trans (if_pos hlt))
      clear HV hlt
      go_enter Try.func66, Try.ntmps66
      go_wp2_with (first | (go_at_call 25; refine (isDyckS s _ hs).mono ?_; rintro e w1 ⟨rfl, rfl⟩) | (go_at_call 64; refine (HR.out _).mono ?_; rintro e w3 ⟨rfl, hb3⟩) | (go_at_call 62; refine (HU.out _).mono ?_; rintro e w4 ⟨rfl, hb4⟩))
      go_ret2
      exact ⟨by rw [HV2.out]; rfl, below_then hb3 hb4⟩
    · have HU := Lib.hid (fun w => unrankS_no n (k + 1) w hn8 (by omega))
      have HV2 := Lib.hid (HV.out.trans (if_neg hlt))
      clear HV hlt
      go_enter Try.func66, Try.ntmps66
      go_wp2_with (first | (go_at_call 25; refine (isDyckS s _ hs).mono ?_; rintro e w1 ⟨rfl, rfl⟩) | (go_at_call 64; refine (HR.out _).mono ?_; rintro e w3 ⟨rfl, hb3⟩) | (go_at_call 62; refine (HU.out _).mono ?_; rintro e w4 ⟨rfl, hb4⟩))
      go_ret2
      exact ⟨by rw [HV2.out]; rfl, below_then hb3 hb4⟩
set_option maxRecDepth 100000 in
theorem law_FnExactNextPath (s : ByteArray) (w : World) (hs : s.size ≤ maxLen) : Calls Try.prog 18 #[.string s] w fun e w' => e = .returned (.bool true) ∧ Below w.heap.size w w' := by
  unfold maxLen at hs
  by_cases hb : s.size ≤ 1048576
  · have HS := Lib.hid (fun w => nextS s w hb)
    have HI := Lib.hid (fun w => nextI s w hb)
    obtain ⟨o, ho⟩ : ∃ o, o = nextV s.data.toList := ⟨_, rfl⟩
    rw [← ho] at HS HI
    clear ho
    cases o with
    | none =>
      unfold nextR at HS HI
      go_enter Try.func18, Try.ntmps18
      go_wp2_with fail
      refine (HS.out _).mono ?_
      rintro e w1 ⟨rfl, h1⟩
      go_wp2_with fail
      refine (HI.out _).mono ?_
      rintro e w2 ⟨rfl, h2⟩
      go_wp2_with fail
      go_ret
      exact ⟨rfl, below_then h1 h2⟩
    | some x =>
      unfold nextR at HS HI
      go_enter Try.func18, Try.ntmps18
      go_wp2_with fail
      refine (HS.out _).mono ?_
      rintro e w1 ⟨rfl, h1⟩
      go_wp2_with fail
      refine (HI.out _).mono ?_
      rintro e w2 ⟨rfl, h2⟩
      go_wp2_with fail
      go_ret
      exact ⟨rfl, below_then h1 h2⟩
  · go_enter Try.func18, Try.ntmps18
    go_wp2
    go_ret
    exact ⟨rfl, Below.refl _ _⟩
end Go.Proofs.Ytfpdkjoimmociaa
