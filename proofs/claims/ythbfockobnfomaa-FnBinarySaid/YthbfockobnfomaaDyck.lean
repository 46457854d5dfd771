/-
  IsDyck of both packages and impl.heights, walked: whether a word is a path, and its heights.
-/
import Derived.Test.YthbfockobnfomaaRows
import Derived.Test.YthbfockobnfomaaDyckP
import Derived.Test.YthbfockobnfomaaEl
namespace Go.Proofs.Ythbfockobnfomaa
open Go.RowKit
theorem beq_zero (h : Nat) : ((h : Int) == 0) = (h == 0) := by rw [Bool.eq_iff_iff]; simp

set_option maxRecDepth 100000 in
set_option maxHeartbeats 1000000 in
theorem heightsI (s : ByteArray) (w : World) (hs : s.size ≤ 16) : Calls Try.prog 87 #[.string s] w fun e w' =>
    ∃ v, e = .returned (.tuple #[v, .bool (isPath s.data.toList)]) ∧ Hid (isPath s.data.toList = true → Buf w w' 3 v ((hl s.data.toList).map (Value.int .i64))) ∧ Below w.heap.size w w' := by
  have hlit := Buf.lit (w0 := w) (e := 3) (Below.refl _ w) [.int .i64 0] (by simp [maxLen])
  go_enter Try.func87, Try.ntmps87
  go_wp2_with fail
  go_loopw [4, 5, 6] (fun v h i wr => ∃ (k hh : Nat) (pre : List Int), k ≤ s.size ∧ i = .int .i64 k ∧ h = .int .i64 hh ∧ hh ≤ k ∧ pre.length = k + 1 ∧ Hid (hgo 0 s.data.toList = hgo hh (s.data.toList.drop k)) ∧ Hid (hl s.data.toList = pre ++ hts hh (s.data.toList.drop k)) ∧ Buf w wr 3 v (pre.map (Value.int .i64))) (fun _ _ i _ => s.size - (intOf i).toNat)
  case atStart => exact ⟨0, 0, [0], by omega, rfl, rfl, by omega, rfl, rfl, rfl, hlit⟩
  case round =>
    obtain ⟨k, hh, pre, hk, rfl, rfl, hhk, hpl, HG, HL, hBr⟩ := hrel
    have hxl : (pre.map (Value.int .i64)).length ≤ 17 := by simp; omega
    by_cases hlt : k < s.size
    · have hd := drop_cons s k hlt
      obtain ⟨c, hc⟩ : ∃ c, c = s[k] := ⟨_, rfl⟩
      by_cases h1 : s[k] = 117
      · have e1 := byte_eq 117 117 h1
        have HG2 : Hid (hgo 0 s.data.toList = hgo (hh + 1) (s.data.toList.drop (k + 1))) := by have := HG.out; rw [hd, h1, hgo_u] at this; exact this
        have HL2 : Hid (hl s.data.toList = (pre ++ [((hh + 1 : Nat) : Int)]) ++ hts (hh + 1) (s.data.toList.drop (k + 1))) := by have := HL.out; rw [hd, h1, hts_u] at this; rw [this]; show _ = _; simp
        clear hd h1 hc
        go_wp2_with (at_builtin; refine buf_append1 elInt rfl _ _ rfl hBr rfl rfl rfl (by omega) ?_; intro v2 w2 hB2 _ _)
        go_roundw
        case rel => exact ⟨k + 1, hh + 1, _, by omega, by go_num, by go_num, by omega, by simp [hpl], HG2, HL2, by rw [List.map_append]; exact hB2⟩
        case measure => simp [intOf]; omega
      · have e1 := byte_ne 117 117 h1
        by_cases h2 : s[k] = 100
        · have e2 := byte_eq 100 100 h2
          match hh, hhk, HG, HL with
          | 0, hhk, HG, HL =>
            have HF : Hid (isPath s.data.toList = false) := by have := HG.out; rw [hd, h2, hgo_d0] at this; show isPath _ = _; rw [isPath, this]; rfl
            clear hd h1 h2 hc
            go_wp2
            go_ret2
            exact ⟨_, by rw [HF.out]; rfl, fun h => (by rw [HF.out] at h; cases h), hBr.bel⟩
          | hh + 1, hhk, HG, HL =>
            have HG2 : Hid (hgo 0 s.data.toList = hgo hh (s.data.toList.drop (k + 1))) := by have := HG.out; rw [hd, h2, hgo_d] at this; exact this
            have HL2 : Hid (hl s.data.toList = (pre ++ [(hh : Int)]) ++ hts hh (s.data.toList.drop (k + 1))) := by have := HL.out; rw [hd, h2, hts_d] at this; rw [this]; show _ = _; simp
            clear hd h1 h2 hc
            go_wp2_with (at_builtin; refine buf_append1 elInt rfl _ _ rfl hBr rfl rfl rfl (by omega) ?_; intro v2 w2 hB2 _ _)
            go_roundw
            case rel => exact ⟨k + 1, hh, _, by omega, by go_num, by go_num, by omega, by simp [hpl], HG2, HL2, by rw [List.map_append]; exact hB2⟩
            case measure => simp [intOf]; omega
        · have e2 := byte_ne 100 100 h2
          have HF : Hid (isPath s.data.toList = false) := by have := HG.out; rw [hd, hgo_x _ _ _ h1 h2] at this; show isPath _ = _; rw [isPath, this]; rfl
          clear hd h1 h2 hc
          go_wp2
          go_ret2
          exact ⟨_, by rw [HF.out]; rfl, fun h => (by rw [HF.out] at h; cases h), hBr.bel⟩
    · have hd := drop_end s k hlt
      have HG2 : Hid (isPath s.data.toList = ((hh : Int) == 0)) := by have := HG.out; rw [hd] at this; show isPath _ = _; rw [isPath, this, beq_zero]; simp [hgo]
      have HL2 : Hid (hl s.data.toList = pre) := by have := HL.out; rw [hd] at this; rw [this]; show _ = _; simp [hts]
      clear hd
      go_wp2
      go_ret2
      refine ⟨_, ?_, fun _ => by rw [HL2.out]; exact hBr, hBr.bel⟩
      rw [HG2.out]; rfl

set_option maxRecDepth 100000 in
theorem isDyckI' (s : ByteArray) (w : World) (hs : s.size ≤ 4194304) : Calls Try.prog 69 #[.string s] w fun e w' => e = .returned (.bool (dyck s.data.toList)) ∧ Below w.heap.size w w' := by
  by_cases h : s.size ≤ 16
  · have HD : Hid (dyck s.data.toList = isPath s.data.toList) := by show dyck _ = _; rw [dyck, decide_eq_true (by simpa using h)]; rfl
    go_enter Try.func69, Try.ntmps69
    go_wp2_with (go_at_call 87; refine (heightsI s _ h).mono ?_; rintro e w' ⟨v, rfl, _, hb⟩)
    go_ret
    exact ⟨by rw [HD.out]; rfl, hb⟩
  · have HD : Hid (dyck s.data.toList = false) := by show dyck _ = _; rw [dyck, decide_eq_false (by simpa using h)]; rfl
    go_enter Try.func69, Try.ntmps69
    go_wp2_with fail
    go_ret
    exact ⟨by rw [HD.out]; rfl, Below.refl _ _⟩

set_option maxRecDepth 100000 in
set_option maxHeartbeats 1000000 in
theorem isDyckS' (s : ByteArray) (w : World) (hs : s.size ≤ 4194304) : Calls Try.prog 67 #[.string s] w fun e w' => e = .returned (.bool (dyck s.data.toList)) ∧ w = w' := by
  go_enter Try.func67, Try.ntmps67
  go_wp2_with fail
  go_loop [3, 4] (fun h i => ∃ (k hh : Nat), k ≤ s.size ∧ i = .int .i64 k ∧ h = .int .i64 hh ∧ hh ≤ k ∧ Hid (hgo 0 s.data.toList = hgo hh (s.data.toList.drop k))) (fun _ i => s.size - (intOf i).toNat)
  case atStart => exact ⟨0, 0, by omega, rfl, rfl, by omega, rfl⟩
  case round =>
    obtain ⟨k, hh, hk, rfl, rfl, hhk, HG⟩ := hrel
    by_cases hlt : k < s.size
    · have hd := drop_cons s k hlt
      by_cases h1 : s[k] = 117
      · have e1 := byte_eq 117 117 h1
        have HG2 : Hid (hgo 0 s.data.toList = hgo (hh + 1) (s.data.toList.drop (k + 1))) := by have := HG.out; rw [hd, h1, hgo_u] at this; exact this
        clear hd h1
        go_wp2
        go_round
        case rel => exact ⟨k + 1, hh + 1, by omega, by go_num, by go_num, by omega, HG2⟩
        case measure => simp [intOf]; omega
      · have e1 := byte_ne 117 117 h1
        by_cases h2 : s[k] = 100
        · have e2 := byte_eq 100 100 h2
          match hh, hhk, HG with
          | 0, hhk, HG =>
            have HF : Hid (dyck s.data.toList = false) := by have := HG.out; rw [hd, h2, hgo_d0] at this; show dyck _ = _; rw [dyck, isPath, this]; simp
            clear hd h1 h2
            go_wp2
            go_ret
            exact ⟨by rw [HF.out]; rfl, rfl⟩
          | hh + 1, hhk, HG =>
            have HG2 : Hid (hgo 0 s.data.toList = hgo hh (s.data.toList.drop (k + 1))) := by have := HG.out; rw [hd, h2, hgo_d] at this; exact this
            clear hd h1 h2
            go_wp2
            go_round
            case rel => exact ⟨k + 1, hh, by omega, by go_num, by go_num, by omega, HG2⟩
            case measure => simp [intOf]; omega
        · have e2 := byte_ne 100 100 h2
          have HF : Hid (dyck s.data.toList = false) := by have := HG.out; rw [hd, hgo_x _ _ _ h1 h2] at this; show dyck _ = _; rw [dyck, isPath, this]; simp
          clear hd h1 h2
          go_wp2
          go_ret
          exact ⟨by rw [HF.out]; rfl, rfl⟩
    · have hd := drop_end s k hlt
      have HG2 : Hid (dyck s.data.toList = (((hh : Int) == 0) && decide ((s.size : Int) ≤ 16))) := by
        have := HG.out; rw [hd] at this; show dyck _ = _; rw [dyck, isPath, this, beq_zero, Bool.and_comm]
        congr 1
        rw [Bool.eq_iff_iff]; simp; omega
      clear hd
      by_cases h0 : hh = 0
      · subst h0
        have e0 : (((0 : Nat) : Int) == 0) = true := rfl
        go_wp2
        go_ret
        refine ⟨?_, rfl⟩
        rw [HG2.out]; rfl
      · have e0 : ((hh : Int) == 0) = false := by rw [beq_zero]; simpa using h0
        have HG3 : Hid (dyck s.data.toList = false) := by have := HG2.out; rw [e0] at this; exact this
        clear h0
        go_wp2
        go_ret
        refine ⟨?_, rfl⟩
        rw [HG3.out]; rfl
theorem isDyckI (s : ByteArray) (w : World) (hs : s.size ≤ 1048576) : Calls Try.prog 69 #[.string s] w fun e w' => e = .returned (.bool (dyck s.data.toList)) ∧ Below w.heap.size w w' := isDyckI' s w (by omega)
theorem isDyckS (s : ByteArray) (w : World) (hs : s.size ≤ 1048576) : Calls Try.prog 67 #[.string s] w fun e w' => e = .returned (.bool (dyck s.data.toList)) ∧ w = w' := isDyckS' s w (by omega)
end Go.Proofs.Ythbfockobnfomaa
