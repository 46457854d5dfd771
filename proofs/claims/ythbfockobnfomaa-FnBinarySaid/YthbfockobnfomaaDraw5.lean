/-
  The reference's draw of a word spoiled.
-/
import Derived.Test.YthbfockobnfomaaDraw4
import Derived.Test.YthbfockobnfomaaDraw3
namespace Go.Proofs.Ythbfockobnfomaa
open Go.RowKit
theorem Cur.drewN {w0 w : World} {q : Nat} {A : Option Addr} {n c : Nat} {zs : List Int} (h : Cur w0 w q A n c zs) (k : Nat) : Cur w0 (w.drewN k) q A n c zs := h.below (below_drewN (Below.refl _ _) _)
theorem Cur.drew {w0 w : World} {q : Nat} {A : Option Addr} {n c : Nat} {zs : List Int} (h : Cur w0 w q A n c zs) : Cur w0 w.drew q A n c zs := h.below (Below.refl _ _).drew
set_option maxRecDepth 100000 in
set_option maxHeartbeats 1000000 in
theorem spoilC (w0 w : World) (q : Nat) (A : Option Addr) (n c : Nat) (zs : List Int) (hC : Cur w0 w q A n c zs) (s : ByteArray) (hs : s.size ≤ 100) :
    Calls Try.prog 90 #[.pointer (some ⟨q, 0, none⟩), .string s] w fun e w' => (∃ x : ByteArray, e = .returned (.string x) ∧ x.size ≤ 101) ∧ Cur w0 w' q A n c zs := by
  have HB := Lib.hid (fun w h N h0 hN => belowC w0 w q A n c zs h N h0 hN)
  have HY := Lib.hid (fun w h => byteC w0 w q A n c zs h)
  have HT := Lib.hid (fun w h => textC w0 w q A n c zs h 3 (by decide))
  have HC := Lib.hid hC
  clear hC
  by_cases h0 : s.size = 0
  · have e1 : ((s.size : Int) == 0) = true := by rw [h0]; rfl
    go_enter Try.func90, Try.ntmps90
    go_wp2_with fail
    refine (HT.out _ HC.out).mono ?_
    rintro e w1 ⟨⟨x, rfl, hx⟩, hC1⟩
    go_wp2_with fail
    go_ret
    exact ⟨⟨_, rfl, by omega⟩, hC1⟩
  · have e1 : ((s.size : Int) == 0) = false := by rw [beq_eq_false_iff_ne]; omega
    go_enter Try.func90, Try.ntmps90
    go_wp2_with fail
    refine (HB.out _ HC.out s.size (by omega) (by omega)).mono ?_
    rintro e w1 ⟨⟨k, rfl, hk⟩, hC1, hg1⟩
    have H1 := Lib.hid hC1
    clear hC1 hg1
    go_wp2_with fail
    refine (HB.out _ H1.out 4 (by decide) (by decide)).mono ?_
    rintro e w2 ⟨⟨j, rfl, hj⟩, hC2, hg2⟩
    have H2 := Lib.hid hC2
    clear hC2 hg2
    have k0 : (0 : Int) ≤ (k : Int) := by omega
    have k1 : (k : Int) ≤ (s.size : Int) := by omega
    have k2 : (k : Int) < (s.size : Int) := by omega
    have k3 : (0 : Int) ≤ (k : Int) + 1 := by omega
    have k4 : (k : Int) + 1 ≤ (s.size : Int) := by omega
    have k5 : IntKind.i64.wrap ((k : Int) + 1) = (k : Int) + 1 := IntWalk.i64_in _ ⟨by omega, by omega⟩
    have k6 : ((k : Int) + 1).toNat = k + 1 := by omega
    have x1 : (s.extract 0 k).size ≤ k := by rw [ByteArray.size_extract]; omega
    have x2 : (s.extract (k + 1) s.size).size ≤ s.size - k - 1 := by rw [ByteArray.size_extract]; omega
    have x3 : (s.extract k s.size).size ≤ s.size - k := by rw [ByteArray.size_extract]; omega
    go_wp2_with fail
    · go_quiet (fail)
      go_wp2_with fail
      go_ret
      exact ⟨⟨_, rfl, by rw [ByteArray.size_append]; omega⟩, H2.out.below (below_drewN (Below.refl _ _) _)⟩
    · obtain ⟨X, hX⟩ : ∃ X, s.extract 0 k = X := ⟨_, rfl⟩
      obtain ⟨Y, hY⟩ : ∃ Y, s.extract k s.size = Y := ⟨_, rfl⟩
      rw [hX] at x1
      rw [hY] at x3
      have hcv := (fun (w3 : World) z => conv_one (t := 35) (e := 5) (d := 9) elU8.sl Try.underlying5 Try.underlying9 w3 z)
      have y0 : ∀ z, (strOfNums [z]).size = 1 := fun z => strOfNums_size _
      have y1 : ∀ z, ¬ (9223372036854775807 < X.size + (strOfNums [z]).size) := fun z => by have := y0 z; omega
      have y3 : ∀ z, ¬ (9223372036854775807 < X.size + (strOfNums [z]).size + Y.size) := fun z => by have := y0 z; omega
      go_region_with (first | (go_at_call 92; (with_reducible refine (HY.out _ (by first | exact H2.out | exact H2.out.drew | exact H2.out.drewN _)).mono ?_); rintro e w3 ⟨⟨x, rfl, hx0, hx1⟩, hC3, hg3⟩))
      go_wp2_with fail
      go_ret
      exact ⟨⟨_, rfl, by rw [ByteArray.size_append, ByteArray.size_append, y0]; omega⟩, hC3.below (by first | exact ((Below.refl _ _).alloc (Nat.le_refl _) _) | exact below_drewN ((Below.refl _ _).alloc (Nat.le_refl _) _) _ | exact ((Below.refl _ _).alloc (Nat.le_refl _) _).drew)⟩
    · go_wp2_with fail
      go_ret
      exact ⟨⟨_, rfl, by omega⟩, H2.out⟩
    · obtain ⟨X, hX⟩ : ∃ X, s.extract 0 k = X := ⟨_, rfl⟩
      obtain ⟨Y, hY⟩ : ∃ Y, s.extract (k + 1) s.size = Y := ⟨_, rfl⟩
      rw [hX] at x1
      rw [hY] at x2
      have hcv := (fun (w3 : World) z => conv_one (t := 35) (e := 5) (d := 9) elU8.sl Try.underlying5 Try.underlying9 w3 z)
      have y0 : ∀ z, (strOfNums [z]).size = 1 := fun z => strOfNums_size _
      have y1 : ∀ z, ¬ (9223372036854775807 < X.size + (strOfNums [z]).size) := fun z => by have := y0 z; omega
      have y3 : ∀ z, ¬ (9223372036854775807 < X.size + (strOfNums [z]).size + Y.size) := fun z => by have := y0 z; omega
      go_region_with (first | (go_at_call 76; (refine (HB.out _ (by first | exact H2.out | exact H2.out.drew | exact H2.out.drewN _) 255 (by decide) (by decide)).mono ?_); rintro e w3 ⟨⟨x, rfl, hx⟩, hC3, hg3⟩))
      all_goals
        go_wp2_with fail
        go_ret
        exact ⟨⟨_, rfl, by rw [ByteArray.size_append, ByteArray.size_append, y0]; omega⟩, hC3.below (by first | exact ((Below.refl _ _).alloc (Nat.le_refl _) _) | exact below_drewN ((Below.refl _ _).alloc (Nat.le_refl _) _) _ | exact ((Below.refl _ _).alloc (Nat.le_refl _) _).drew)⟩
end Go.Proofs.Ythbfockobnfomaa
