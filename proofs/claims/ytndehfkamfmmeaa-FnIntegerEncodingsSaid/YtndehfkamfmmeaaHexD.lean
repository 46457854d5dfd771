/-
  DecodeHex of both packages and its law, walked.
-/
import Derived.Test.YtndehfkamfmmeaaHexS
import Derived.Test.YtndehfkamfmmeaaOps
namespace Go.Proofs.Ytndehfkamfmmeaa
open Go.RowKit
/-- The value of a hexadecimal digit; -1 of another byte. -/
def hexv (n : Nat) : Int := if 48 ≤ n ∧ n ≤ 57 then (n : Int) - 48 else if 97 ≤ n ∧ n ≤ 102 then (n : Int) - 87 else -1
theorem hexv_range (n : Nat) : -1 ≤ hexv n ∧ hexv n ≤ 15 := by 
  unfold hexv
  split
  · omega
  · split <;> omega
theorem hexv_dig (n : Nat) (k : Nat) (hk : k < 16) (h : hexDig k = n) : hexv n = k := by
  unfold hexDig at h
  unfold hexv
  split at h
  · rw [if_pos (by omega)]; omega
  · rw [if_neg (by omega), if_pos (by omega)]; omega
theorem hexv_none (n : Nat) (h : ∀ k, k < 16 → hexDig k ≠ n) : hexv n = -1 := by
  unfold hexv
  by_cases h1 : 48 ≤ n ∧ n ≤ 57
  · exact absurd (by unfold hexDig; rw [if_pos (by omega)]; omega) (h (n - 48) (by omega))
  · rw [if_neg h1]
    by_cases h2 : 97 ≤ n ∧ n ≤ 102
    · exact absurd (by unfold hexDig; rw [if_neg (by omega)]; omega) (h (n - 87) (by omega))
    · rw [if_neg h2]

theorem hexValueI (c : UInt8) (w : World) : Calls Try.prog 77 #[.int .u8 (c.toNat : Int)] w fun e w' => e = .returned (.int .i64 (hexv c.toNat)) ∧ w = w' := by
  have hc := c.toNat_lt
  have HV := Lib.hid (fun (v : Int) (h : v = hexv c.toNat) => ret_int (k := .i64) h)
  go_enter Try.func77, Try.ntmps77
  go_wp2
  all_goals
    go_ret
    refine ⟨HV.out _ ?_, rfl⟩
    unfold hexv
    split
    · omega
    · split <;> omega

theorem or_nib (n b : Nat) (hb : b < 16) : n * 16 ||| b = n * 16 + b := by
  have := Nat.two_pow_add_eq_or_of_lt (i := 4) (b := b) hb n
  rw [Nat.mul_comm n 16]; exact this.symm
/-- The bytes that pairs of digits encode; none where a byte is no digit. -/
def decH : List UInt8 → Option (List Int)
  | [] => some []
  | [_] => none
  | a :: b :: r => if hexv a.toNat < 0 ∨ hexv b.toNat < 0 then none else (decH r).map fun l => (hexv a.toNat * 16 + hexv b.toNat) :: l
theorem decH_bad (a b : UInt8) (r : List UInt8) (h : hexv a.toNat < 0 ∨ hexv b.toNat < 0) : decH (a :: b :: r) = none := by simp only [decH, if_pos h]
theorem decH_good (a b : UInt8) (r : List UInt8) (h : ¬ (hexv a.toNat < 0 ∨ hexv b.toNat < 0)) : decH (a :: b :: r) = (decH r).map fun l => (hexv a.toNat * 16 + hexv b.toNat) :: l := by simp only [decH, if_neg h]
def hexR (o : Option (List Int)) : Value := match o with
  | some xs => .tuple #[.string (strOfNums xs), .bool true]
  | none => .tuple #[.string ByteArray.empty, .bool false]
theorem map_nil_app (o : Option (List Int)) : o = o.map ([] ++ ·) := by cases o <;> simp
theorem map_app (o : Option (List Int)) (p : List Int) (x : Int) : (o.map fun l => x :: l).map (p ++ ·) = o.map ((p ++ [x]) ++ ·) := by cases o <;> simp

set_option maxRecDepth 100000 in
set_option maxHeartbeats 1000000 in
theorem decodeHexI_even (s : ByteArray) (w : World) (hs : s.size ≤ 1048576) (he : s.size % 2 = 0) : Calls Try.prog 58 #[.string s] w fun e w' => e = .returned (hexR (decH s.data.toList)) ∧ Below w.heap.size w w' := by
  obtain ⟨n, hn⟩ : ∃ n, s.size = 2 * n := ⟨s.size / 2, by omega⟩
  have e1 : (((s.size : Int) % 2) != 0) = false := by have : (s.size : Int) % 2 = 0 := by omega
                                                      simp [this]
  have e2 : (s.size : Int) / 2 = (n : Int) := by omega
  have hn1 : s.size ≤ 2 * n := by omega
  have hn2 : 2 * n ≤ s.size := by omega
  have hn3 : n ≤ 1048576 := by omega
  clear he hn
  go_enter Try.func58, Try.ntmps58
  go_wp2_with (at_make; refine buf_make0 elU8 (Below.refl w.heap.size w) n (by omega) rfl _ _ rfl _ _ _ rfl rfl rfl ?_; intro w1 hB _)
  go_loopw [4, 5, 6, 7] (fun v i _ _ wr => ∃ (k : Nat) (pre : List Int), k ≤ n ∧ i = .int .i64 ((2 * k : Nat) : Int) ∧ pre.length = k ∧ Hid (decH s.data.toList = (decH (s.data.toList.drop (2 * k))).map (pre ++ ·)) ∧ Buf w wr 5 v (pre.map (Value.int .u8))) (fun _ i _ _ _ => s.size - (intOf i).toNat)
  case atStart => exact ⟨0, [], by omega, rfl, rfl, map_nil_app _, hB⟩
  case round =>
    obtain ⟨k, pre, hk, rfl, hpl, HD, hBr⟩ := hrel
    have hxl : (pre.map (Value.int .u8)).length ≤ n := by simp; omega
    obtain ⟨j, hj⟩ : ∃ j, j = 2 * k := ⟨_, rfl⟩
    have HJ := Lib.hid hj
    rw [← hj] at HD ⊢
    have hj1 : j ≤ 2 * n := by omega
    have hj2 : j % 2 = 0 := by omega
    clear hj
    by_cases hlt : j < s.size
    · have hlt2 : j + 1 < s.size := by omega
      have hdc := drop_cons s j hlt
      rw [drop_cons s (j + 1) hlt2] at hdc
      have r1 := hexv_range s[j].toNat
      have r2 := hexv_range s[j + 1].toNat
      have hx1 : (j : Int) + 1 < (s.size : Int) := by omega
      have hw1 : IntKind.i64.wrap ((j : Int) + 1) = (j : Int) + 1 := IntWalk.i64_in _ ⟨by omega, by omega⟩
      have hp1 : (0 : Int) ≤ (j : Int) + 1 := by omega
      have ht1 : ((j : Int) + 1).toNat = j + 1 := by omega
      have hp0 : (0 : Int) ≤ (j : Int) := by omega
      have hx0 : (j : Int) < (s.size : Int) := by omega
      by_cases hbad : hexv s[j].toNat < 0 ∨ hexv s[j + 1].toNat < 0
      · have HF : Hid (hexR (decH s.data.toList) = .tuple #[.string ByteArray.empty, .bool false]) := by
          have := HD.out
          rw [hdc, decH_bad _ _ _ hbad] at this
          show hexR _ = _; rw [this]; rfl
        clear hdc
        rcases hbad with hbad | hbad
        · go_wp2_with fail
          go_quiet ((go_at_call 77; exact quiet_left (hexValueI _ _)))
          clear hw1
          go_wp2
          go_ret2
          exact ⟨by rw [HF.out]; rfl, below_drewN hBr.bel _⟩
        · by_cases hb1 : hexv s[j].toNat < 0
          all_goals
            go_wp2_with fail
            go_quiet ((go_at_call 77; exact quiet_left (hexValueI _ _)))
            clear hw1
            go_wp2
            go_ret2
            exact ⟨by rw [HF.out]; rfl, below_drewN hBr.bel _⟩
      · have HD2 : Hid (decH s.data.toList = (decH (s.data.toList.drop (j + 1 + 1))).map ((pre ++ [hexv s[j].toNat * 16 + hexv s[j + 1].toNat]) ++ ·)) := by
          have := HD.out
          rw [hdc, decH_good _ _ _ hbad, map_app] at this
          exact this
        have b1 : 0 ≤ hexv s[j].toNat := by omega
        have b2 : 0 ≤ hexv s[j + 1].toNat := by omega
        obtain ⟨x, hx⟩ := Int.eq_ofNat_of_zero_le b1
        obtain ⟨y, hy⟩ := Int.eq_ofNat_of_zero_le b2
        have hor : bits BinOp.or IntKind.i64 ((x : Int) * 16) (y : Int) = (x : Int) * 16 + y := by
          rw [show (x : Int) * 16 = ((x * 16 : Nat) : Int) from by omega, or_i64 _ _ (by omega) (by omega), or_nib x y (by omega)]; omega
        have hm : ((x : Int) * 16 + y) % 256 = (x : Int) * 16 + y := by omega
        have hx15 : x ≤ 15 := by omega
        have hy15 : y ≤ 15 := by omega
        rw [hx, hy] at HD2
        clear hdc hbad b1 b2 r1 r2
        go_wp2_with fail
        go_quiet ((go_at_call 77; exact quiet_left (hexValueI _ _)))
        clear hw1
        go_wp2_with (at_builtin; refine buf_append1 elU8 rfl _ _ rfl (hBr.drewN _) rfl rfl rfl (by omega) ?_; intro v2 w2 hB2 _ _)
        go_roundw
        case rel => exact ⟨k + 1, pre ++ [(x : Int) * 16 + y], by have := HJ.out; omega, by have := HJ.out; go_num, by simp [hpl], by rw [show 2 * (k + 1) = j + 1 + 1 from by have := HJ.out; omega]; exact HD2, by rw [List.map_append]; exact hB2⟩
        case measure => simp [intOf]; omega
    · have HF : Hid (decH s.data.toList = some pre) := by
        have := HD.out
        rw [drop_end s j hlt] at this
        show _ = _; rw [this]; simp [decH]
      have hcv := buf_string (t := 37) (d := 9) elU8.sl Try.underlying5 Try.underlying9 hBr
      go_wp2
      go_ret2
      exact ⟨by rw [HF.out]; rfl, hBr.bel⟩
theorem decodeHexI_odd (s : ByteArray) (w : World) (hs : s.size ≤ 1048576) (he : s.size % 2 = 1) : Calls Try.prog 58 #[.string s] w fun e w' => e = .returned (.tuple #[.string ByteArray.empty, .bool false]) ∧ Below w.heap.size w w' := by
  have e1 : (((s.size : Int) % 2) != 0) = true := by have : (s.size : Int) % 2 = 1 := by omega
                                                     simp [this]
  clear he
  go_enter Try.func58, Try.ntmps58
  go_wp2
  go_ret2
  exact ⟨rfl, Below.refl _ _⟩
end Go.Proofs.Ytndehfkamfmmeaa
