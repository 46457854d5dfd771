/-
  impl.FormatInt, walked: the digits from the last one on, the sign, and all of it turned round.
-/
import Derived.Test.YtndehfkamfmmeaaHexI
import Derived.Test.YtndehfkamfmmeaaOps
import Derived.Test.YtndehfkamfmmeaaRevP
namespace Go.Proofs.Ytndehfkamfmmeaa
open Go.RowKit
/-- The digits of a, the last one first; f: at most so many. -/
def dig : Nat → Nat → List Int
  | 0, _ => []
  | f + 1, a => if a = 0 then [] else ((48 + a % 10 : Nat) : Int) :: dig f (a / 10)
theorem dig_zero (f : Nat) : dig f 0 = [] := by cases f <;> simp [dig]
theorem dig_pos (f a : Nat) (h : a ≠ 0) : dig (f + 1) a = ((48 + a % 10 : Nat) : Int) :: dig f (a / 10) := by simp [dig, h]
theorem len_dig (f a : Nat) : (dig f a).length ≤ f := by
  induction f generalizing a with
  | zero => simp [dig]
  | succ f ih => by_cases h : a = 0
                 · simp [dig, h]
                 · rw [dig_pos _ _ h, List.length_cons]; have := ih (a / 10); omega
def sgn (n : Int) : List Int := if n < 0 then [45] else []
/-- The bytes of FormatInt. -/
def fmt (n : Int) : List Int := if n = 0 then [48] else sgn n ++ (dig 20 n.natAbs).reverse
theorem quo10 (x : Int) (hx : -9223372036854775808 ≤ x) (hx2 : x ≤ 9223372036854775807) : ∃ y : Int, x.tdiv 10 = y ∧ y.natAbs = x.natAbs / 10 ∧ -922337203685477581 ≤ y ∧ y ≤ 922337203685477581 := by
  have h : (x.tdiv 10).natAbs = x.natAbs / 10 := by rw [Int.natAbs_tdiv]; rfl
  exact ⟨_, rfl, h, by omega, by omega⟩
theorem rem10 (x : Int) : ∃ q : Int, x.tmod 10 = q ∧ q.natAbs = x.natAbs % 10 ∧ -9 ≤ q ∧ q ≤ 9 := by
  have h : (x.tmod 10).natAbs = x.natAbs % 10 := by rw [Int.natAbs_tmod]; rfl
  exact ⟨_, rfl, h, by omega, by omega⟩

set_option maxRecDepth 100000 in
set_option maxHeartbeats 1000000 in
/-- From the second loop on: what is held is turned round. -/
theorem formatI_core (n : Int) (w : World) (h0 : n ≠ 0) (hlo : -9223372036854775808 ≤ n) (hhi : n ≤ 9223372036854775807) : Calls Try.prog 59 #[.int .i64 n] w fun e w' => e = .returned (.string (strOfNums (fmt n))) ∧ Below w.heap.size w w' := by
  have hlit := Buf.lit (w0 := w) (e := 5) (Below.refl _ w) [] (by decide)
  have HF : Hid (fmt n = sgn n ++ (dig 20 n.natAbs).reverse) := by unfold fmt; rw [if_neg h0]; rfl
  have hne : (n == 0) = false := by simp [h0]
  have H0 := Lib.hid h0
  clear h0
  go_enter Try.func59, Try.ntmps59
  go_wp2_with fail
  go_loopw [3, 4, 5] (fun v m d wr => ∃ (f : Nat) (x : Int) (xs : List Int), m = .int .i64 x ∧ -9223372036854775808 ≤ x ∧ x ≤ 9223372036854775807 ∧ Hid (x.natAbs < 10 ^ f) ∧ f + xs.length = 20 ∧ Hid (xs ++ dig f x.natAbs = dig 20 n.natAbs) ∧ Buf w wr 5 v (xs.map (Value.int .u8))) (fun _ m _ _ => (intOf m).natAbs)
  case atStart => exact ⟨20, n, [], rfl, hlo, hhi, (by show n.natAbs < 10 ^ 20; omega), rfl, rfl, hlit⟩
  case round =>
    obtain ⟨f, x, xs, rfl, hx1, hx2, hf, hl, H, hBr⟩ := hrel
    have hxl : (xs.map (Value.int .u8)).length ≤ 20 := by simp; omega
    by_cases hx : x = 0
    · have HL : Hid (xs = dig 20 n.natAbs) := by
        have h1 := H.out
        rw [hx] at h1
        have h2 : xs = dig 20 n.natAbs := by simpa [dig_zero] using h1
        exact h2
      subst hx
      have hlen := len_dig 20 n.natAbs
      have hpos : 1 ≤ (dig 20 n.natAbs).length := by rw [dig_pos _ _ (by have := H0.out; omega)]; simp
      rw [← HL.out] at hlen hpos
      by_cases hneg : n < 0
      · have HR : Hid ((xs ++ [45]).reverse = fmt n) := by rw [HF.out, sgn, if_pos hneg, HL.out]; show (_ ++ [_]).reverse = _; rw [List.reverse_append]; rfl
        obtain ⟨L, hL⟩ : ∃ L, L = xs ++ [45] := ⟨_, rfl⟩
        rw [← hL] at HR
        have hLl : L.length = xs.length + 1 := by rw [hL]; simp
        have HLm : Hid (L.map (Value.int .u8) = xs.map (Value.int .u8) ++ [.int .u8 45]) := by rw [hL]; show List.map _ _ = _; simp
        have hl1 : 1 ≤ L.length := by omega
        have hl2 : L.length ≤ 21 := by omega
        clear hL hLl
        go_wp2_with (at_builtin; go_must (refine buf_append1 elU8 rfl _ _ rfl hBr rfl rfl rfl (by omega) ?_; intro v2 w2 hB2 _ _; rw [← HLm.out] at hB2; obtain ⟨g, N, cap, hv, hN⟩ := hB2.form' (by rw [List.length_map]; omega); subst hv; rw [List.length_map] at hN; have HN := Lib.hid hN; have hN1 : 1 ≤ N := (by omega); have hN2 : N ≤ 21 := (by omega); clear hN))
        go_loopw [6, 7] (fun i j wz => ∃ a : Nat, 2 * a ≤ N + 1 ∧ i = .int .i64 (a : Int) ∧ j = .int .i64 ((N : Int) - 1 - a) ∧ Buf w wz 5 (.slice (some ⟨g, 0, none⟩) N cap) ((swp L a).map (Value.int .u8))) (fun i j _ => (intOf j - intOf i).toNat)
        case atStart => exact ⟨0, by omega, rfl, by go_num, by rw [swp_zero]; exact hB2⟩
        case round =>
          obtain ⟨a, ha, rfl, rfl, hBz⟩ := hrel
          obtain ⟨b, hb⟩ : ∃ b : Int, (N : Int) - 1 - a = b := ⟨_, rfl⟩
          rw [hb]
          by_cases hab : (a : Int) < b
          · obtain ⟨b, rfl⟩ := Int.eq_ofNat_of_zero_le (a := b) (by omega)
            have hbN : b < N := by omega
            have haN : a < N := by omega
            obtain ⟨x, hx⟩ : ∃ x, x = (swp L a).getD a 0 := ⟨_, rfl⟩
            obtain ⟨y, hy⟩ : ∃ y, y = (swp L a).getD b 0 := ⟨_, rfl⟩
            have hc1 : wr.cell? ⟨g, a, none⟩ = some (.int .u8 x) := by
              rw [hBz.cellAt a haN, hx]; simp [List.getD, len_swp, ← HN.out, haN]
            have hc2 : wr.cell? ⟨g, b, none⟩ = some (.int .u8 y) := by
              rw [hBz.cellAt b hbN, hy]; simp [List.getD, len_swp, ← HN.out, hbN]
            have hf1 := hBz.frozenAt a
            have hf2 := hBz.frozenAt b
            have HB := Lib.hid hb
            have HX := Lib.hid hx
            have HY := Lib.hid hy
            clear hb hx hy
            go_wp2
            go_region
            go_wp2
            go_roundw
            case rel =>
              have hbe : (b : Int) = (N : Int) - 1 - a := HB.out.symm
              refine ⟨a + 1, by omega, by go_num, by go_num, ?_⟩
              have e : (swp L (a + 1)).map (Value.int .u8) = (((swp L a).map (Value.int .u8)).set a (.int .u8 y)).set b (.int .u8 x) := by
                rw [← swp_step L a b (by omega) (by have := HN.out; omega), ← HX.out, ← HY.out, List.map_set, List.map_set]
              rw [e]
              exact (hBz.drew.set a _).set b _
            case measure => have := HB.out; simp [intOf]; omega
          · have HE : Hid (swp L a = L.reverse) := swp_end L a (by have := HN.out; omega) (by have := HN.out; omega)
            rw [HE.out] at hBz
            have hcv := buf_string (t := 37) (d := 9) elU8.sl Try.underlying5 Try.underlying9 hBz
            have HB := Lib.hid hb
            clear hb
            go_wp2
            go_ret
            exact ⟨by rw [← HR.out]; rfl, hBz.bel⟩
      · have HR : Hid (xs.reverse = fmt n) := by rw [HF.out, sgn, if_neg hneg, HL.out]; rfl
        obtain ⟨g, N, cap, hv, hN⟩ := hBr.form' (by rw [List.length_map]; omega)
        subst hv
        rw [List.length_map] at hN
        have HN := Lib.hid hN
        have hN1 : 1 ≤ N := by omega
        have hN2 : N ≤ 21 := by omega
        clear hN
        go_wp2_with fail
        go_loopw [6, 7] (fun i j wz => ∃ a : Nat, 2 * a ≤ N + 1 ∧ i = .int .i64 (a : Int) ∧ j = .int .i64 ((N : Int) - 1 - a) ∧ Buf w wz 5 (.slice (some ⟨g, 0, none⟩) N cap) ((swp xs a).map (Value.int .u8))) (fun i j _ => (intOf j - intOf i).toNat)
        case atStart => exact ⟨0, by omega, rfl, by go_num, by rw [swp_zero]; exact hBr⟩
        case round =>
          obtain ⟨a, ha, rfl, rfl, hBz⟩ := hrel
          obtain ⟨b, hb⟩ : ∃ b : Int, (N : Int) - 1 - a = b := ⟨_, rfl⟩
          rw [hb]
          by_cases hab : (a : Int) < b
          · obtain ⟨b, rfl⟩ := Int.eq_ofNat_of_zero_le (a := b) (by omega)
            have hbN : b < N := by omega
            have haN : a < N := by omega
            obtain ⟨x, hx⟩ : ∃ x, x = (swp xs a).getD a 0 := ⟨_, rfl⟩
            obtain ⟨y, hy⟩ : ∃ y, y = (swp xs a).getD b 0 := ⟨_, rfl⟩
            have hc1 : wr.cell? ⟨g, a, none⟩ = some (.int .u8 x) := by
              rw [hBz.cellAt a haN, hx]; simp [List.getD, len_swp, ← HN.out, haN]
            have hc2 : wr.cell? ⟨g, b, none⟩ = some (.int .u8 y) := by
              rw [hBz.cellAt b hbN, hy]; simp [List.getD, len_swp, ← HN.out, hbN]
            have hf1 := hBz.frozenAt a
            have hf2 := hBz.frozenAt b
            have HB := Lib.hid hb
            have HX := Lib.hid hx
            have HY := Lib.hid hy
            clear hb hx hy
            go_wp2
            go_region
            go_wp2
            go_roundw
            case rel =>
              have hbe : (b : Int) = (N : Int) - 1 - a := HB.out.symm
              refine ⟨a + 1, by omega, by go_num, by go_num, ?_⟩
              have e : (swp xs (a + 1)).map (Value.int .u8) = (((swp xs a).map (Value.int .u8)).set a (.int .u8 y)).set b (.int .u8 x) := by
                rw [← swp_step xs a b (by omega) (by have := HN.out; omega), ← HX.out, ← HY.out, List.map_set, List.map_set]
              rw [e]
              exact (hBz.drew.set a _).set b _
            case measure => have := HB.out; simp [intOf]; omega
          · have HE : Hid (swp xs a = xs.reverse) := swp_end xs a (by have := HN.out; omega) (by have := HN.out; omega)
            rw [HE.out] at hBz
            have hcv := buf_string (t := 37) (d := 9) elU8.sl Try.underlying5 Try.underlying9 hBz
            have HB := Lib.hid hb
            clear hb
            go_wp2
            go_ret
            exact ⟨by rw [← HR.out]; rfl, hBz.bel⟩
    · have hx' : (x != 0) = true := by simp [hx]
      obtain ⟨y, hy, hya, hy1, hy2⟩ := quo10 x hx1 hx2
      obtain ⟨q, hq, hqa, hq1, hq2⟩ := rem10 x
      obtain ⟨f, rfl⟩ : ∃ f', f = f' + 1 := ⟨f - 1, by have := hf.out; cases f with | zero => simp at this; omega | succ f => omega⟩
      have HY : Hid (y.natAbs < 10 ^ f ∧ xs ++ ((48 + q.natAbs : Nat) : Int) :: dig f y.natAbs = dig 20 n.natAbs ∧ y.natAbs < x.natAbs) := by
        refine ⟨?_, ?_, by omega⟩
        · have := hf.out; rw [Nat.pow_succ] at this; rw [hya]; omega
        · have := H.out; rw [dig_pos _ _ (by omega)] at this; rw [hya, hqa]; exact this
      have HX := Lib.hid hx
      clear hya hqa hx
      by_cases hneg : q < 0
      · have hm : (48 + -q) % 256 = 48 + -q := by omega
        go_wp2_with (at_builtin; refine buf_append1 elU8 rfl _ _ rfl hBr rfl rfl rfl (by omega) ?_; intro v2 w2 hB2 _ _)
        go_roundw
        case rel => exact ⟨f, y, xs ++ [((48 + q.natAbs : Nat) : Int)], rfl, by omega, by omega, HY.out.1, by simp; omega, (by show xs ++ _ ++ dig f _ = _; rw [List.append_assoc]; exact HY.out.2.1), by rw [List.map_append, show ((48 + q.natAbs : Nat) : Int) = 48 + -q from by omega]; exact hB2⟩
        case measure => exact HY.out.2.2
      · have hm : (48 + q) % 256 = 48 + q := by omega
        go_wp2_with (at_builtin; refine buf_append1 elU8 rfl _ _ rfl hBr rfl rfl rfl (by omega) ?_; intro v2 w2 hB2 _ _)
        go_roundw
        case rel => exact ⟨f, y, xs ++ [((48 + q.natAbs : Nat) : Int)], rfl, by omega, by omega, HY.out.1, by simp; omega, (by show xs ++ _ ++ dig f _ = _; rw [List.append_assoc]; exact HY.out.2.1), by rw [List.map_append, show ((48 + q.natAbs : Nat) : Int) = 48 + q from by omega]; exact hB2⟩
        case measure => exact HY.out.2.2

theorem formatI (n : Int) (w : World) (hlo : -9223372036854775808 ≤ n) (hhi : n ≤ 9223372036854775807) : Calls Try.prog 59 #[.int .i64 n] w fun e w' => e = .returned (.string (strOfNums (fmt n))) ∧ Below w.heap.size w w' := by
  by_cases h0 : n = 0
  · subst h0
    go_enter Try.func59, Try.ntmps59
    go_wp2
    go_ret
    exact ⟨rfl, Below.refl _ _⟩
  · exact formatI_core n w h0 hlo hhi
end Go.Proofs.Ytndehfkamfmmeaa
