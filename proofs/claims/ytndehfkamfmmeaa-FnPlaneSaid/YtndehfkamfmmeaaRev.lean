/-
  ReversePath and JoinAtReturn of both packages, and their laws, walked.
-/
import Derived.Test.YtndehfkamfmmeaaDyck
namespace Go.Proofs.Ytndehfkamfmmeaa
open Go.RowKit
/-- The word backwards with u and d exchanged. -/
def revI (l : List UInt8) : List Int := l.reverse.map fun c => if c = 117 then 100 else 117
theorem revI_u (r : List UInt8) : revI (117 :: r) = revI r ++ [100] := by simp [revI]
theorem revI_x (c : UInt8) (r : List UInt8) (h : c ≠ 117) : revI (c :: r) = revI r ++ [117] := by simp [revI, h]
theorem len_revI (l : List UInt8) : (revI l).length = l.length := by simp [revI]
theorem drop_all (s : ByteArray) : s.data.toList.drop s.size = [] := List.drop_of_length_le (by simp)

set_option maxRecDepth 100000 in
set_option maxHeartbeats 1000000 in
theorem reverseI_yes (s : ByteArray) (w : World) (hs : s.size ≤ 1048576) (hd : dyck s.data.toList = true) : Calls Try.prog 68 #[.string s] w fun e w' => e = .returned (.tuple #[.string (strOfNums (revI s.data.toList)), .bool true]) ∧ Below w.heap.size w w' := by
  have hs16 : s.size ≤ 16 := by have := dyck_len hd; simpa using this
  go_enter Try.func68, Try.ntmps68
  go_wp2_with (go_at_call 65; refine (isDyckI s _ hs).mono ?_; rintro e w1 ⟨rfl, hb⟩)
  have hlit := Buf.lit (w0 := w) (e := 5) hb [] (by decide)
  go_loopw [4, 5] (fun v i wr => ∃ r : Nat, r ≤ s.size ∧ i = .int .i64 ((r : Int) - 1) ∧ Buf w wr 5 v ((revI (s.data.toList.drop r)).map (Value.int .u8))) (fun _ i _ => (intOf i + 1).toNat)
  case atStart => exact ⟨s.size, Nat.le_refl _, rfl, by rw [drop_all]; exact hlit⟩
  case round =>
    obtain ⟨r, hr, rfl, hBr⟩ := hrel
    have hl16 : ((revI (s.data.toList.drop r)).map (Value.int .u8)).length ≤ 16 := by simp [len_revI]; omega
    match r, hr, hBr, hl16 with
    | 0, _, hBr, _ =>
      have hcv := buf_string (t := 37) (d := 9) elU8.sl Try.underlying5 Try.underlying9 hBr
      go_wp2
      go_ret2
      exact ⟨rfl, hBr.bel⟩
    | r + 1, hr, hBr, hl16 =>
      have hlt : r < s.size := by omega
      have hdc := drop_cons s r hlt
      have ei : ((r + 1 : Nat) : Int) - 1 = (r : Int) := by omega
      rw [ei]
      by_cases h1 : s[r] = 117
      · have e1 := byte_eq 117 117 h1
        have HR : Hid (revI (s.data.toList.drop r) = revI (s.data.toList.drop (r + 1)) ++ [100]) := by rw [hdc, h1]; exact revI_u _
        clear hdc h1 ei
        go_wp2_with (at_builtin; refine buf_append1 elU8 rfl _ _ rfl hBr rfl rfl rfl (by omega) ?_; intro v2 w2 hB2 _ _)
        go_roundw
        case rel => exact ⟨r, by omega, rfl, by rw [HR.out, List.map_append]; exact hB2⟩
        case measure => simp [intOf]
      · have e1 := byte_ne 117 117 h1
        have HR : Hid (revI (s.data.toList.drop r) = revI (s.data.toList.drop (r + 1)) ++ [117]) := by rw [hdc]; exact revI_x _ _ h1
        clear hdc h1 ei
        go_wp2_with (at_builtin; refine buf_append1 elU8 rfl _ _ rfl hBr rfl rfl rfl (by omega) ?_; intro v2 w2 hB2 _ _)
        go_roundw
        case rel => exact ⟨r, by omega, rfl, by rw [HR.out, List.map_append]; exact hB2⟩
        case measure => simp [intOf]
theorem reverseI_no (s : ByteArray) (w : World) (hs : s.size ≤ 1048576) (hd : dyck s.data.toList = false) : Calls Try.prog 68 #[.string s] w fun e w' => e = .returned (.tuple #[.string ByteArray.empty, .bool false]) ∧ Below w.heap.size w w' := by
  go_enter Try.func68, Try.ntmps68
  go_wp2_with (go_at_call 65; refine (isDyckI s _ hs).mono ?_; rintro e w1 ⟨rfl, hb⟩)
  go_ret2
  exact ⟨rfl, hb⟩
set_option maxRecDepth 100000 in
set_option maxHeartbeats 1000000 in
theorem reverseS_yes (s : ByteArray) (w : World) (hs : s.size ≤ 1048576) (hd : dyck s.data.toList = true) : Calls Try.prog 67 #[.string s] w fun e w' => e = .returned (.tuple #[.string (strOfNums (revI s.data.toList)), .bool true]) ∧ Below w.heap.size w w' := by
  have hs16 : s.size ≤ 16 := by have := dyck_len hd; simpa using this
  go_enter Try.func67, Try.ntmps67
  go_wp2_with fail
  go_loop [4, 5] (fun o i => ∃ r : Nat, r ≤ s.size ∧ i = .int .i64 ((r : Int) - 1) ∧ o = .string (strOfNums (revI (s.data.toList.drop r)))) (fun _ i => (intOf i + 1).toNat)
  case atStart => exact ⟨s.size, Nat.le_refl _, rfl, by rw [drop_all]; rfl⟩
  case round =>
    obtain ⟨r, hr, rfl, rfl⟩ := hrel
    have hl16 : (strOfNums (revI (s.data.toList.drop r))).size ≤ 16 := by rw [strOfNums_size, len_revI]; simp; omega
    match r, hr, hl16 with
    | 0, _, _ =>
      go_wp2_with (go_at_call 64; refine (isDyckS s _ hs).mono ?_; rintro e w1 ⟨rfl, rfl⟩)
      go_ret2
      exact ⟨rfl, Below.refl _ _⟩
    | r + 1, hr, hl16 =>
      have hlt : r < s.size := by omega
      have hdc := drop_cons s r hlt
      have ei : ((r + 1 : Nat) : Int) - 1 = (r : Int) := by omega
      rw [ei]
      by_cases h1 : s[r] = 117
      · have e1 := byte_eq 117 117 h1
        have HR : Hid (strOfNums (revI (s.data.toList.drop r)) = strOfNums (revI (s.data.toList.drop (r + 1))) ++ ⟨#[100]⟩) := by rw [hdc, h1, revI_u, ← strOfNums_app]; rfl
        obtain ⟨o, ho⟩ : ∃ o, o = strOfNums (revI (s.data.toList.drop (r + 1))) := ⟨_, rfl⟩
        rw [← ho] at HR hl16 ⊢
        clear hdc h1 ei ho
        go_wp2_with (go_at_call 64; refine (isDyckS s _ hs).mono ?_; rintro e w1 ⟨rfl, rfl⟩)
        go_round
        case rel => exact ⟨r, by omega, rfl, by rw [HR.out]⟩
        case measure => simp [intOf]
      · have e1 := byte_ne 117 117 h1
        have HR : Hid (strOfNums (revI (s.data.toList.drop r)) = strOfNums (revI (s.data.toList.drop (r + 1))) ++ ⟨#[117]⟩) := by rw [hdc, revI_x _ _ h1, ← strOfNums_app]; rfl
        obtain ⟨o, ho⟩ : ∃ o, o = strOfNums (revI (s.data.toList.drop (r + 1))) := ⟨_, rfl⟩
        rw [← ho] at HR hl16 ⊢
        clear hdc h1 ei ho
        go_wp2_with (go_at_call 64; refine (isDyckS s _ hs).mono ?_; rintro e w1 ⟨rfl, rfl⟩)
        go_round
        case rel => exact ⟨r, by omega, rfl, by rw [HR.out]⟩
        case measure => simp [intOf]
set_option maxRecDepth 100000 in
theorem reverseS_no (s : ByteArray) (w : World) (hs : s.size ≤ 1048576) (hd : dyck s.data.toList = false) : Calls Try.prog 67 #[.string s] w fun e w' => e = .returned (.tuple #[.string ByteArray.empty, .bool false]) ∧ Below w.heap.size w w' := by
  go_enter Try.func67, Try.ntmps67
  go_wp2_with fail
  refine wp_loop_rounds 1 ?_
  rw [rounds_succ]
  go_wp2_with (go_at_call 64; refine (isDyckS s _ hs).mono ?_; rintro e w1 ⟨rfl, rfl⟩)
  all_goals
    go_ret2
    exact ⟨rfl, Below.refl _ _⟩

def joinW (a b : ByteArray) : ByteArray := ⟨#[117]⟩ ++ a ++ ⟨#[100]⟩ ++ b
theorem size_joinW (a b : ByteArray) : (joinW a b).size = a.size + b.size + 2 := by simp [joinW, ByteArray.size_append]; show 1 + a.size + 1 + b.size = _; omega
end Go.Proofs.Ytndehfkamfmmeaa
