/-
  SizeOf, PeaksOf of both packages, and their laws, walked.
-/
import Derived.Test.YtndehfkamfmmeaaDyck
namespace Go.Proofs.Ytndehfkamfmmeaa
open Go.RowKit
def sizeV (l : List UInt8) : Int := if dyck l = true then (l.length : Int) / 2 else -1
theorem sizeV_yes {l : List UInt8} (h : dyck l = true) : sizeV l = (l.length : Int) / 2 := if_pos h
theorem sizeV_no {l : List UInt8} (h : dyck l = false) : sizeV l = -1 := if_neg (by rw [h]; simp)
theorem size_of (s : ByteArray) : (s.data.toList.length : Int) = (s.size : Int) := by simp

set_option maxRecDepth 100000 in
theorem sizeOfS (s : ByteArray) (w : World) (hs : s.size ≤ 1048576) : Calls Try.prog 40 #[.string s] w fun e w' => e = .returned (.int .i64 (sizeV s.data.toList)) ∧ Below w.heap.size w w' := by
  cases hd : dyck s.data.toList with
  | false =>
    have HV := Lib.hid (sizeV_no hd)
    go_enter Try.func40, Try.ntmps40
    go_wp2_with (go_at_call 64; refine (isDyckS s _ hs).mono ?_; rintro e w' ⟨rfl, rfl⟩)
    go_ret
    exact ⟨by rw [HV.out]; rfl, Below.refl _ _⟩
  | true =>
    have HV := Lib.hid (sizeV_yes hd)
    go_enter Try.func40, Try.ntmps40
    go_wp2_with (go_at_call 64; refine (isDyckS s _ hs).mono ?_; rintro e w' ⟨rfl, rfl⟩)
    go_ret
    exact ⟨by rw [HV.out, size_of]; rfl, Below.refl _ _⟩

/-- How many letters u have a d behind them. -/
def peaks : List UInt8 → Nat
  | a :: b :: r => (if a = 117 ∧ b = 100 then 1 else 0) + peaks (b :: r)
  | _ => 0
def peaksV (l : List UInt8) : Int := if dyck l = true then (peaks l : Int) else -1
theorem peaksV_yes {l : List UInt8} (h : dyck l = true) : peaksV l = (peaks l : Int) := if_pos h
theorem peaksV_no {l : List UInt8} (h : dyck l = false) : peaksV l = -1 := if_neg (by rw [h]; simp)
theorem peaks_hit (r : List UInt8) : peaks (117 :: 100 :: r) = 1 + peaks (100 :: r) := by simp [peaks]
theorem peaks_miss (a b : UInt8) (r : List UInt8) (h : ¬ (a = 117 ∧ b = 100)) : peaks (a :: b :: r) = peaks (b :: r) := by simp [peaks, h]
theorem peaks_short (l : List UInt8) (h : l.length ≤ 1) : peaks l = 0 := by
  match l, h with
  | [], _ => rfl
  | [_], _ => rfl
theorem peaks_le (l : List UInt8) : peaks l ≤ l.length := by
  induction l with
  | nil => simp [peaks]
  | cons a l ih =>
    cases l with
    | nil => simp [peaks]
    | cons b r => simp only [peaks, List.length_cons] at *; split <;> omega

set_option maxRecDepth 100000 in
set_option maxHeartbeats 1000000 in
theorem peaksI (s : ByteArray) (w : World) (hs : s.size ≤ 1048576) : Calls Try.prog 37 #[.string s] w fun e w' => e = .returned (.int .i64 (peaksV s.data.toList)) ∧ Below w.heap.size w w' := by
  cases hd : dyck s.data.toList with
  | false =>
    have HV := Lib.hid (peaksV_no hd)
    go_enter Try.func37, Try.ntmps37
    go_wp2_with (go_at_call 65; refine (isDyckI s _ hs).mono ?_; rintro e w' ⟨rfl, hb⟩)
    go_ret
    exact ⟨by rw [HV.out]; rfl, hb⟩
  | true =>
    have HV := Lib.hid (peaksV_yes hd)
    have hs16 : s.size ≤ 16 := by have := dyck_len hd; simpa using this
    go_enter Try.func37, Try.ntmps37
    go_wp2_with (go_at_call 65; refine (isDyckI s _ hs).mono ?_; rintro e w1 ⟨rfl, hb⟩)
    go_loop [3, 4] (fun n i => ∃ (k m : Nat), (k + 1 ≤ s.size ∨ k = 0) ∧ i = .int .i64 ((k : Int) + 1) ∧ n = .int .i64 m ∧ m ≤ k ∧ Hid (m + peaks (s.data.toList.drop k) = peaks s.data.toList)) (fun _ i => s.size + 1 - (intOf i).toNat)
    case atStart => exact ⟨0, 0, .inr rfl, rfl, rfl, by omega, (by show 0 + _ = _; simp)⟩
    case round =>
      obtain ⟨k, m, hk, rfl, rfl, hm, HP⟩ := hrel
      by_cases hlt : k + 1 < s.size
      · have hd0 := drop_cons s k (by omega)
        rw [drop_cons s (k + 1) hlt] at hd0
        have hk0 : k < s.size := by omega
        clear hk
        by_cases h1 : s[k] = 117
        · have e1 := byte_eq 117 117 h1
          by_cases h2 : s[k + 1] = 100
          · have e2 := byte_eq 100 100 h2
            have HP2 : Hid (m + 1 + peaks (s.data.toList.drop (k + 1)) = peaks s.data.toList) := by
              have := HP.out
              rw [hd0, h1, h2, peaks_hit, ← h2, ← drop_cons s (k + 1) hlt] at this
              show _ = _; omega
            clear hd0 h1 h2
            go_wp2
            go_round
            case rel => exact ⟨k + 1, m + 1, by omega, by go_num, by go_num, by omega, HP2⟩
            case measure => simp [intOf]; omega
          · have e2 := byte_ne 100 100 h2
            have HP2 : Hid (m + peaks (s.data.toList.drop (k + 1)) = peaks s.data.toList) := by
              have := HP.out
              rw [hd0, peaks_miss _ _ _ (fun h => h2 h.2), ← drop_cons s (k + 1) hlt] at this
              exact this
            clear hd0 h1 h2
            go_wp2
            go_round
            case rel => exact ⟨k + 1, m, by omega, by go_num, by go_num, by omega, HP2⟩
            case measure => simp [intOf]; omega
        · have e1 := byte_ne 117 117 h1
          have HP2 : Hid (m + peaks (s.data.toList.drop (k + 1)) = peaks s.data.toList) := by
            have := HP.out
            rw [hd0, peaks_miss _ _ _ (fun h => h1 h.1), ← drop_cons s (k + 1) hlt] at this
            exact this
          clear hd0 h1
          go_wp2
          go_round
          case rel => exact ⟨k + 1, m, by omega, by go_num, by go_num, by omega, HP2⟩
          case measure => simp [intOf]; omega
      · have HP2 : Hid (m = peaks s.data.toList) := by
          have := HP.out
          rw [peaks_short _ (by simp; omega)] at this
          exact this
        go_wp2
        go_ret
        refine ⟨?_, hb⟩
        rw [HV.out, ← HP2.out]; rfl

end Go.Proofs.Ytndehfkamfmmeaa
