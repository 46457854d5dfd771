/-
  impl.exchanged, BracketsOf and PathOfBrackets of both packages, and their laws, walked.
-/
import Derived.Test.YtfpdkjoimmociaaRev
namespace Go.Proofs.Ytfpdkjoimmociaa
open Go.RowKit
/-- A word with two letters for two others; none if it has another one. -/
def exch (a b : UInt8) (x y : Int) : List UInt8 → Option (List Int)
  | [] => some []
  | c :: r => if c = a then (exch a b x y r).map (x :: ·) else if c = b then (exch a b x y r).map (y :: ·) else none
theorem exch_a (a b : UInt8) (x y : Int) (r : List UInt8) : exch a b x y (a :: r) = (exch a b x y r).map (x :: ·) := by simp [exch]
theorem exch_b (a b : UInt8) (x y : Int) (r : List UInt8) (h : b ≠ a) : exch a b x y (b :: r) = (exch a b x y r).map (y :: ·) := by simp [exch, h]
theorem exch_x (a b : UInt8) (x y : Int) (c : UInt8) (r : List UInt8) (h1 : c ≠ a) (h2 : c ≠ b) : exch a b x y (c :: r) = none := by simp [exch, h1, h2]
theorem map_pre (o : Option (List Int)) (p : List Int) (x : Int) : (o.map (x :: ·)).map (p ++ ·) = o.map ((p ++ [x]) ++ ·) := by cases o <;> simp
theorem map_pre_nil (o : Option (List Int)) : o = o.map ([] ++ ·) := by cases o <;> simp
theorem exch_len (a b : UInt8) (x y : Int) : ∀ (l : List UInt8) (xs : List Int), exch a b x y l = some xs → xs.length = l.length := by
  intro l
  induction l with
  | nil => intro xs h; simp [exch] at h; subst h; rfl
  | cons c r ih =>
    intro xs h
    simp only [exch] at h
    split at h
    · obtain ⟨ys, hy, rfl⟩ := Option.map_eq_some_iff.1 h; simp [ih ys hy]
    · split at h
      · obtain ⟨ys, hy, rfl⟩ := Option.map_eq_some_iff.1 h; simp [ih ys hy]
      · cases h
def strR (o : Option (List Int)) : Value := match o with
  | some xs => .tuple #[.string (strOfNums xs), .bool true]
  | none => .tuple #[.string ByteArray.empty, .bool false]

set_option maxRecDepth 100000 in
set_option maxHeartbeats 1000000 in
theorem exchangedI_pb (s : ByteArray) (w : World) (hs : s.size ≤ 1048576) : Calls Try.prog 97 #[.string s, .string ⟨#[117, 100]⟩, .string ⟨#[40, 41]⟩] w fun e w' => e = .returned (strR (exch 117 100 40 41 s.data.toList)) ∧ Below w.heap.size w w' := by
  have hlit := Buf.lit (w0 := w) (e := 5) (Below.refl _ w) [] (by decide)
  have f0 : (((⟨#[117, 100]⟩ : ByteArray)[0]'(by decide)).toNat : Int) = 117 := rfl
  have f1 : (((⟨#[117, 100]⟩ : ByteArray)[1]'(by decide)).toNat : Int) = 100 := rfl
  have t0 : (((⟨#[40, 41]⟩ : ByteArray)[0]'(by decide)).toNat : Int) = 40 := rfl
  have t1 : (((⟨#[40, 41]⟩ : ByteArray)[1]'(by decide)).toNat : Int) = 41 := rfl
  go_enter Try.func97, Try.ntmps97
  go_wp2_with fail
  go_loopw [8, 9] (fun v i wr => ∃ (k : Nat) (pre : List Int), k ≤ s.size ∧ i = .int .i64 k ∧ pre.length = k ∧ Hid (exch 117 100 40 41 s.data.toList = (exch 117 100 40 41 (s.data.toList.drop k)).map (pre ++ ·)) ∧ Buf w wr 5 v (pre.map (Value.int .u8))) (fun _ i _ => s.size - (intOf i).toNat)
  case atStart => exact ⟨0, [], by omega, rfl, rfl, map_pre_nil _, hlit⟩
  case round =>
    obtain ⟨k, pre, hk, rfl, hpl, HE, hBr⟩ := hrel
    have hxl : (pre.map (Value.int .u8)).length ≤ 1048576 := by simp; omega
    by_cases hlt : k < s.size
    · have hdc := drop_cons s k hlt
      by_cases h1 : s[k] = 117
      · have e1 := byte_eq 117 117 h1
        have HE2 : Hid (exch 117 100 40 41 s.data.toList = (exch 117 100 40 41 (s.data.toList.drop (k + 1))).map ((pre ++ [40]) ++ ·)) := by have := HE.out; rw [hdc, h1, exch_a, map_pre] at this; exact this
        clear hdc h1
        go_wp2_with (at_builtin; refine buf_append1 elU8 rfl _ _ rfl hBr rfl rfl rfl (by omega) ?_; intro v2 w2 hB2 _ _)
        go_roundw
        case rel => exact ⟨k + 1, pre ++ [40], by omega, by go_num, by simp [hpl], HE2, by rw [List.map_append]; exact hB2⟩
        case measure => simp [intOf]; omega
      · have e1 := byte_ne 117 117 h1
        by_cases h2 : s[k] = 100
        · have e2 := byte_eq 100 100 h2
          have HE2 : Hid (exch 117 100 40 41 s.data.toList = (exch 117 100 40 41 (s.data.toList.drop (k + 1))).map ((pre ++ [41]) ++ ·)) := by have := HE.out; rw [hdc, h2, exch_b _ _ _ _ _ (by decide), map_pre] at this; exact this
          clear hdc h1 h2
          go_wp2_with (at_builtin; refine buf_append1 elU8 rfl _ _ rfl hBr rfl rfl rfl (by omega) ?_; intro v2 w2 hB2 _ _)
          go_roundw
          case rel => exact ⟨k + 1, pre ++ [41], by omega, by go_num, by simp [hpl], HE2, by rw [List.map_append]; exact hB2⟩
          case measure => simp [intOf]; omega
        · have e2 := byte_ne 100 100 h2
          have HF : Hid (exch 117 100 40 41 s.data.toList = none) := by have := HE.out; rw [hdc, exch_x _ _ _ _ _ _ h1 h2] at this; exact this
          clear hdc h1 h2
          go_wp2
          go_ret2
          exact ⟨by rw [HF.out]; rfl, hBr.bel⟩
    · have HF : Hid (exch 117 100 40 41 s.data.toList = some pre) := by have := HE.out; rw [drop_end s k hlt] at this; rw [this]; show _ = _; simp [exch]
      have hcv := buf_string (t := 41) (d := 9) elU8.sl Try.underlying5 Try.underlying9 hBr
      go_wp2
      go_ret2
      exact ⟨by rw [HF.out]; rfl, hBr.bel⟩

set_option maxRecDepth 100000 in
set_option maxHeartbeats 1000000 in
theorem exchangedI_bp (s : ByteArray) (w : World) (hs : s.size ≤ 1048576) : Calls Try.prog 97 #[.string s, .string ⟨#[40, 41]⟩, .string ⟨#[117, 100]⟩] w fun e w' => e = .returned (strR (exch 40 41 117 100 s.data.toList)) ∧ Below w.heap.size w w' := by
  have hlit := Buf.lit (w0 := w) (e := 5) (Below.refl _ w) [] (by decide)
  have f0 : (((⟨#[40, 41]⟩ : ByteArray)[0]'(by decide)).toNat : Int) = 40 := rfl
  have f1 : (((⟨#[40, 41]⟩ : ByteArray)[1]'(by decide)).toNat : Int) = 41 := rfl
  have t0 : (((⟨#[117, 100]⟩ : ByteArray)[0]'(by decide)).toNat : Int) = 117 := rfl
  have t1 : (((⟨#[117, 100]⟩ : ByteArray)[1]'(by decide)).toNat : Int) = 100 := rfl
  go_enter Try.func97, Try.ntmps97
  go_wp2_with fail
  go_loopw [8, 9] (fun v i wr => ∃ (k : Nat) (pre : List Int), k ≤ s.size ∧ i = .int .i64 k ∧ pre.length = k ∧ Hid (exch 40 41 117 100 s.data.toList = (exch 40 41 117 100 (s.data.toList.drop k)).map (pre ++ ·)) ∧ Buf w wr 5 v (pre.map (Value.int .u8))) (fun _ i _ => s.size - (intOf i).toNat)
  case atStart => exact ⟨0, [], by omega, rfl, rfl, map_pre_nil _, hlit⟩
  case round =>
    obtain ⟨k, pre, hk, rfl, hpl, HE, hBr⟩ := hrel
    have hxl : (pre.map (Value.int .u8)).length ≤ 1048576 := by simp; omega
    by_cases hlt : k < s.size
    · have hdc := drop_cons s k hlt
      by_cases h1 : s[k] = 40
      · have e1 := byte_eq 40 40 h1
        have HE2 : Hid (exch 40 41 117 100 s.data.toList = (exch 40 41 117 100 (s.data.toList.drop (k + 1))).map ((pre ++ [117]) ++ ·)) := by have := HE.out; rw [hdc, h1, exch_a, map_pre] at this; exact this
        clear hdc h1
        go_wp2_with (at_builtin; refine buf_append1 elU8 rfl _ _ rfl hBr rfl rfl rfl (by omega) ?_; intro v2 w2 hB2 _ _)
        go_roundw
        case rel => exact ⟨k + 1, pre ++ [117], by omega, by go_num, by simp [hpl], HE2, by rw [List.map_append]; exact hB2⟩
        case measure => simp [intOf]; omega
      · have e1 := byte_ne 40 40 h1
        by_cases h2 : s[k] = 41
        · have e2 := byte_eq 41 41 h2
          have HE2 : Hid (exch 40 41 117 100 s.data.toList = (exch 40 41 117 100 (s.data.toList.drop (k + 1))).map ((pre ++ [100]) ++ ·)) := by have := HE.out; rw [hdc, h2, exch_b _ _ _ _ _ (by decide), map_pre] at this; exact this
          clear hdc h1 h2
          go_wp2_with (at_builtin; refine buf_append1 elU8 rfl _ _ rfl hBr rfl rfl rfl (by omega) ?_; intro v2 w2 hB2 _ _)
          go_roundw
          case rel => exact ⟨k + 1, pre ++ [100], by omega, by go_num, by simp [hpl], HE2, by rw [List.map_append]; exact hB2⟩
          case measure => simp [intOf]; omega
        · have e2 := byte_ne 41 41 h2
          have HF : Hid (exch 40 41 117 100 s.data.toList = none) := by have := HE.out; rw [hdc, exch_x _ _ _ _ _ _ h1 h2] at this; exact this
          clear hdc h1 h2
          go_wp2
          go_ret2
          exact ⟨by rw [HF.out]; rfl, hBr.bel⟩
    · have HF : Hid (exch 40 41 117 100 s.data.toList = some pre) := by have := HE.out; rw [drop_end s k hlt] at this; rw [this]; show _ = _; simp [exch]
      have hcv := buf_string (t := 41) (d := 9) elU8.sl Try.underlying5 Try.underlying9 hBr
      go_wp2
      go_ret2
      exact ⟨by rw [HF.out]; rfl, hBr.bel⟩
end Go.Proofs.Ytfpdkjoimmociaa
