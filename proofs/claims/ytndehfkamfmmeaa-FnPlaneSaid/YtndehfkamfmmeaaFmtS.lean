/-
  spec.FormatInt and the law laws.FnExactFormatInt, walked.
-/
import Derived.Test.YtndehfkamfmmeaaFmtI
namespace Go.Proofs.Ytndehfkamfmmeaa
open Go.RowKit

set_option maxRecDepth 100000 in
set_option maxHeartbeats 1000000 in
theorem formatS_core (n : Int) (w : World) (h0 : n ≠ 0) (hlo : -9223372036854775808 ≤ n) (hhi : n ≤ 9223372036854775807) : Calls Try.prog 61 #[.int .i64 n] w fun e w' => e = .returned (.string (strOfNums (fmt n))) ∧ Below w.heap.size w w' := by
  have HF : Hid (fmt n = sgn n ++ (dig 20 n.natAbs).reverse) := by unfold fmt; rw [if_neg h0]; rfl
  have hne : (n == 0) = false := by simp [h0]
  have H0 := Lib.hid h0
  clear h0
  go_enter Try.func61, Try.ntmps61
  go_wp2_with fail
  go_loopw [3, 0, 5] (fun o m d wr => ∃ (f : Nat) (x : Int) (xs : List Int), m = .int .i64 x ∧ -9223372036854775808 ≤ x ∧ x ≤ 9223372036854775807 ∧ Hid (x.natAbs < 10 ^ f) ∧ f + xs.length = 20 ∧ Hid (xs ++ dig f x.natAbs = dig 20 n.natAbs) ∧ o = .string (strOfNums xs.reverse) ∧ Below w.heap.size w wr) (fun _ m _ _ => (intOf m).natAbs)
  case atStart => exact ⟨20, n, [], rfl, hlo, hhi, (by show n.natAbs < 10 ^ 20; omega), rfl, rfl, rfl, Below.refl _ _⟩
  case round =>
    obtain ⟨f, x, xs, rfl, hx1, hx2, hf, hl, H, rfl, hBr⟩ := hrel
    have hs : (strOfNums xs.reverse).size ≤ 20 := by rw [strOfNums_size, List.length_reverse]; omega
    have HC := Lib.hid (fun c => str_cons c xs.reverse)
    obtain ⟨o, ho⟩ : ∃ o, o = strOfNums xs.reverse := ⟨_, rfl⟩
    rw [← ho] at hs HC ⊢
    have HO := Lib.hid ho
    clear ho
    by_cases hx : x = 0
    · have HL : Hid (xs = dig 20 n.natAbs) := by
        have h1 := H.out
        rw [hx] at h1
        have h2 : xs = dig 20 n.natAbs := by simpa [dig_zero] using h1
        exact h2
      subst hx
      by_cases hneg : n < 0
      · have hd : decide (n < 0) = true := by simp [hneg]
        have HR : Hid (⟨#[45]⟩ ++ o = strOfNums (fmt n)) := by
          rw [HF.out, sgn, if_pos hneg, HO.out, HL.out]
          exact strOfNums_app [45] _
        have hs1 : (⟨#[45]⟩ : ByteArray).size ≤ 1 := Nat.le_refl _
        go_wp2
        go_ret
        exact ⟨by rw [← HR.out]; rfl, hBr⟩
      · have hd : decide (n < 0) = false := by simp [hneg]
        have HR : Hid (o = strOfNums (fmt n)) := by
          rw [HF.out, sgn, if_neg hneg, HO.out, HL.out]; rfl
        go_wp2
        go_ret
        exact ⟨by rw [← HR.out]; rfl, hBr⟩
    · have hx' : (x != 0) = true := by simp [hx]
      obtain ⟨y, hy, hya, hy1, hy2⟩ := quo10 x hx1 hx2
      obtain ⟨q, hq, hqa, hq1, hq2⟩ := rem10 x
      obtain ⟨f, rfl⟩ : ∃ f', f = f' + 1 := ⟨f - 1, by have := hf.out; cases f with | zero => simp at this; omega | succ f => omega⟩
      have HY : Hid (y.natAbs < 10 ^ f ∧ xs ++ ((48 + q.natAbs : Nat) : Int) :: dig f y.natAbs = dig 20 n.natAbs ∧ y.natAbs < x.natAbs) := by
        refine ⟨?_, ?_, by omega⟩
        · have := hf.out; rw [Nat.pow_succ] at this; rw [hya]; omega
        · have := H.out; rw [dig_pos _ _ (by omega)] at this; rw [hya, hqa]; exact this
      have HX := Lib.hid hx
      clear hya hqa hx
      have hs1 : ∀ c, (strOfNums [c]).size ≤ 1 := fun c => by rw [strOfNums_size]; exact Nat.le_refl _
      by_cases hneg : q < 0
      · have hm : (48 + -q) % 256 = 48 + -q := by omega
        have hs2 := hs1 (48 + -q)
        clear hs1
        have hcv := conv_one (t := 37) (e := 5) (d := 9) elU8.sl Try.underlying5 Try.underlying9 wr (48 + -q)
        go_wp2
        go_roundw
        case rel => exact ⟨f, y, xs ++ [((48 + q.natAbs : Nat) : Int)], rfl, by omega, by omega, HY.out.1, by simp; omega, (by show xs ++ _ ++ dig f _ = _; rw [List.append_assoc]; exact HY.out.2.1), by rw [HC.out, List.reverse_append, show ((48 + q.natAbs : Nat) : Int) = 48 + -q from by omega]; rfl, hBr.alloc hBr.size _⟩
        case measure => exact HY.out.2.2
      · have hm : (48 + q) % 256 = 48 + q := by omega
        have hs2 := hs1 (48 + q)
        clear hs1
        have hcv := conv_one (t := 37) (e := 5) (d := 9) elU8.sl Try.underlying5 Try.underlying9 wr (48 + q)
        go_wp2
        go_roundw
        case rel => exact ⟨f, y, xs ++ [((48 + q.natAbs : Nat) : Int)], rfl, by omega, by omega, HY.out.1, by simp; omega, (by show xs ++ _ ++ dig f _ = _; rw [List.append_assoc]; exact HY.out.2.1), by rw [HC.out, List.reverse_append, show ((48 + q.natAbs : Nat) : Int) = 48 + q from by omega]; rfl, hBr.alloc hBr.size _⟩
        case measure => exact HY.out.2.2

theorem formatS (n : Int) (w : World) (hlo : -9223372036854775808 ≤ n) (hhi : n ≤ 9223372036854775807) : Calls Try.prog 61 #[.int .i64 n] w fun e w' => e = .returned (.string (strOfNums (fmt n))) ∧ Below w.heap.size w w' := by
  by_cases h0 : n = 0
  · subst h0
    go_enter Try.func61, Try.ntmps61
    go_wp2
    go_ret
    exact ⟨rfl, Below.refl _ _⟩
  · exact formatS_core n w h0 hlo hhi

theorem wf_bounds {n : Int} (h : (Lit.int .i64 n).wf = true) : -9223372036854775808 ≤ n ∧ n ≤ 9223372036854775807 := by
  simp [Lit.wf, IntKind.min, IntKind.max, IntKind.signed, IntKind.bits] at h; omega

end Go.Proofs.Ytndehfkamfmmeaa
