/-
  HeightsOf of both packages and its law, walked.
-/
import Derived.Test.YtmjnafpjfodbdaaDyck
import Derived.Test.YtmjnafpjfodbdaaInts
namespace Go.Proofs.Ytmjnafpjfodbdaa
open Go.RowKit
def htsV (l : List UInt8) : List Int := if dyck l = true then hl l else []
theorem htsV_yes {l : List UInt8} (h : dyck l = true) : htsV l = hl l := if_pos h
theorem htsV_no {l : List UInt8} (h : dyck l = false) : htsV l = [] := if_neg (by rw [h]; simp)
theorem dyck_isPath {l : List UInt8} (h : dyck l = true) : isPath l = true := by simp [dyck] at h; exact h.2
theorem htsV_len (s : ByteArray) (hb : s.size ≤ 1048576) : (htsV s.data.toList).length ≤ 1073741824 := by
  unfold htsV
  split
  · rw [len_hl]; simp; omega
  · simp
theorem lit_nil (w : World) : Buf w (w.alloc (.cells #[] 3)) 3 (.slice (some ⟨w.heap.size, 0, none⟩) 0 0) (([] : List Int).map (Value.int .i64)) := Buf.lit (Below.refl _ w) [] (by decide)

set_option maxRecDepth 100000 in
theorem heightsOfI (s : ByteArray) (w : World) (hs : s.size ≤ 1048576) : Calls Try.prog 18 #[.string s] w (RetI (htsV s.data.toList) w) := by
  cases hd : dyck s.data.toList with
  | false =>
    rw [htsV_no hd]
    go_enter Try.func18, Try.ntmps18
    go_wp2_with (go_at_call 22; refine (isDyckI s _ hs).mono ?_; rintro e w1 ⟨rfl, hb⟩)
    go_ret
    exact RetI.of ((lit_nil _).from_ hb)
  | true =>
    rw [htsV_yes hd]
    have hs16 : s.size ≤ 16 := by have := dyck_len hd; simpa using this
    have HP := Lib.hid (dyck_isPath hd)
    go_enter Try.func18, Try.ntmps18
    go_wp2_with fail
    refine (isDyckI s _ hs).mono ?_
    rintro e w1 ⟨rfl, hb1⟩
    go_wp2_with fail
    refine (heightsI s _ hs16).mono ?_
    rintro e w2 ⟨v, rfl, hB, hb2⟩
    go_wp2_with fail
    go_ret
    exact RetI.of ((hB.out HP.out).from_ hb1)

set_option maxRecDepth 100000 in
set_option maxHeartbeats 1000000 in
theorem heightsOfS (s : ByteArray) (w : World) (hs : s.size ≤ 1048576) : Calls Try.prog 20 #[.string s] w (RetI (htsV s.data.toList) w) := by
  cases hd : dyck s.data.toList with
  | false =>
    rw [htsV_no hd]
    go_enter Try.func20, Try.ntmps20
    go_wp2_with (go_at_call 21; refine (isDyckS s _ hs).mono ?_; rintro e w1 ⟨rfl, rfl⟩)
    go_ret
    exact RetI.of (lit_nil _)
  | true =>
    rw [htsV_yes hd]
    have hs16 : s.size ≤ 16 := by have := dyck_len hd; simpa using this
    have HP := Lib.hid (dyck_path hd)
    have hlit := lit_nil w
    go_enter Try.func20, Try.ntmps20
    go_wp2_with (go_at_call 21; refine (isDyckS s _ hs).mono ?_; rintro e w1 ⟨rfl, rfl⟩)
    go_loopw [3, 4, 5] (fun v h i wr => ∃ (k hh : Nat) (pre : List Int), k ≤ s.size ∧ i = .int .i64 k ∧ h = .int .i64 hh ∧ hh ≤ k ∧ pre.length = k ∧ Hid (hgo hh (s.data.toList.drop k) = some 0) ∧ Hid (hl s.data.toList = pre ++ (hh : Int) :: hts hh (s.data.toList.drop k)) ∧ Buf w wr 3 v (pre.map (Value.int .i64))) (fun _ _ i _ => s.size - (intOf i).toNat)
    case atStart => exact ⟨0, 0, [], by omega, rfl, rfl, by omega, rfl, HP.out, rfl, hlit⟩
    case round =>
      obtain ⟨k, hh, pre, hk, rfl, rfl, hhk, hpl, HG, HL, hBr⟩ := hrel
      have hxl : (pre.map (Value.int .i64)).length ≤ 17 := by simp; omega
      by_cases hlt : k < s.size
      · have hd := drop_cons s k hlt
        have hor := hgo_letters HG.out s[k] (by rw [hd]; simp)
        by_cases h1 : s[k] = 117
        · have e1 := byte_eq 117 117 h1
          have HG2 : Hid (hgo (hh + 1) (s.data.toList.drop (k + 1)) = some 0) := by have := HG.out; rw [hd, h1, hgo_u] at this; exact this
          have HL2 : Hid (hl s.data.toList = (pre ++ [(hh : Int)]) ++ ((hh + 1 : Nat) : Int) :: hts (hh + 1) (s.data.toList.drop (k + 1))) := by have := HL.out; rw [hd, h1, hts_u] at this; rw [this]; show _ = _; simp
          clear hd h1 hor
          go_wp2_with (at_builtin; refine buf_append1 elInt rfl _ _ rfl hBr rfl rfl rfl (by omega) ?_; intro v2 w2 hB2 _ _)
          go_roundw
          case rel => exact ⟨k + 1, hh + 1, pre ++ [(hh : Int)], by omega, by go_num, by go_num, by omega, by simp [hpl], HG2, HL2, by rw [List.map_append]; exact hB2⟩
          case measure => simp [intOf]; omega
        · have e1 := byte_ne 117 117 h1
          have h2 : s[k] = 100 := hor.resolve_left h1
          match hh, hhk, HG, HL with
          | 0, hhk, HG, HL => have := HG.out; rw [hd, h2, hgo_d0] at this; cases this
          | hh + 1, hhk, HG, HL =>
            have HG2 : Hid (hgo hh (s.data.toList.drop (k + 1)) = some 0) := by have := HG.out; rw [hd, h2, hgo_d] at this; exact this
            have HL2 : Hid (hl s.data.toList = (pre ++ [((hh + 1 : Nat) : Int)]) ++ (hh : Int) :: hts hh (s.data.toList.drop (k + 1))) := by have := HL.out; rw [hd, h2, hts_d] at this; rw [this]; show _ = _; simp
            clear hd h1 h2 hor
            go_wp2_with (at_builtin; refine buf_append1 elInt rfl _ _ rfl hBr rfl rfl rfl (by omega) ?_; intro v2 w2 hB2 _ _)
            go_roundw
            case rel => exact ⟨k + 1, hh, pre ++ [((hh + 1 : Nat) : Int)], by omega, by go_num, by go_num, by omega, by simp [hpl], HG2, HL2, by rw [List.map_append]; exact hB2⟩
            case measure => simp [intOf]; omega
      · have hd := drop_end s k hlt
        have HL2 : Hid (hl s.data.toList = pre ++ [(hh : Int)]) := by have := HL.out; rw [hd] at this; rw [this]; show _ = _; simp [hts]
        clear hd
        go_wp2_with (at_builtin; refine buf_append1 elInt rfl _ _ rfl hBr rfl rfl rfl (by omega) ?_; intro v2 w2 hB2 _ _)
        go_ret
        rw [HL2.out]
        exact RetI.of (by rw [List.map_append]; exact hB2)
end Go.Proofs.Ytmjnafpjfodbdaa
