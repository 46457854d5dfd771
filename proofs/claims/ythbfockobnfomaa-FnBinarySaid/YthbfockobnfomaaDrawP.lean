/-
  The reference's draw of a path: what is drawn is the path of a tree.
-/
import Derived.Test.YthbfockobnfomaaDraw4
import Derived.Test.YthbfockobnfomaaRevD
import Derived.Test.YthbfockobnfomaaBinP
namespace Go.Proofs.Ythbfockobnfomaa
open Go.RowKit
theorem hgo_up {l : List UInt8} {h k : Nat} (hg : hgo h l = some k) : hgo h (l ++ [117]) = some (k + 1) := by rw [hgo_app, hg]; rfl
theorem hgo_dn {l : List UInt8} {h k : Nat} (hg : hgo h l = some (k + 1)) : hgo h (l ++ [100]) = some k := by rw [hgo_app, hg]; rfl
/-- A path begun: its letters so far, how many of each. -/
structure Begun (N : Nat) (l : List UInt8) (up dn : Nat) : Prop where
  le : dn ≤ up
  most : up ≤ N
  at_ : hgo 0 l = some (up - dn)
  len : l.length = up + dn
theorem Begun.up {N up dn : Nat} {l : List UInt8} (h : Begun N l up dn) (hu : up < N) : Begun N (l ++ [117]) (up + 1) dn :=
  ⟨by have := h.le; omega, hu, by rw [hgo_up h.at_]; congr 1; have := h.le; omega, by rw [List.length_append, h.len]; simp; omega⟩
theorem Begun.dn {N up dn : Nat} {l : List UInt8} (h : Begun N l up dn) (hd : dn < up) : Begun N (l ++ [100]) up (dn + 1) :=
  ⟨hd, h.most, by apply hgo_dn; rw [h.at_]; congr 1; omega, by rw [List.length_append, h.len]; simp; omega⟩
theorem Begun.tree {N dn up : Nat} {l : List UInt8} (h : Begun N l up dn) (hd : ¬ dn < N) : ∃ t : Tr, toB l = toB t.path ∧ t.nodes = N := by
  have h1 := h.le
  have h2 := h.most
  have h3 := h.at_
  rw [show up - dn = 0 by omega] at h3
  obtain ⟨t, ht⟩ := path_tree _ l (Nat.le_refl _) h3
  refine ⟨t, by rw [ht], ?_⟩
  have h4 := congrArg List.length ht
  rw [len_path, h.len] at h4
  omega
set_option maxRecDepth 100000 in
set_option maxHeartbeats 1000000 in
theorem drawC (w0 w : World) (q : Nat) (A : Option Addr) (n c : Nat) (zs : List Int) (hC : Cur w0 w q A n c zs) (N : Nat) (hN : N ≤ 6) :
    Calls Try.prog 97 #[.pointer (some ⟨q, 0, none⟩), .int .i64 (N : Int)] w fun e w' => (∃ t : Tr, e = .returned (.string (toB t.path)) ∧ t.nodes ≤ 6) ∧ Cur w0 w' q A n c zs := by
  have HO := Lib.hid (fun w h => onceC w0 w q A n c zs h 2 (by decide) (by decide))
  have HC := Lib.hid hC
  clear hC
  go_enter Try.func97, Try.ntmps97
  go_wp2_with fail
  go_loopw [5, 6, 7] (fun s u d wr => ∃ (x : ByteArray) (l : List UInt8) (up dn : Nat), s = .string x ∧ Hid (x = toB l) ∧ x.size = up + dn ∧ u = .int .i64 up ∧ d = .int .i64 dn ∧ dn ≤ up ∧ up ≤ N ∧ Hid (Begun N l up dn) ∧ Hid (Cur w0 wr q A n c zs)) (fun _ u d _ => 2 * N - (intOf u).toNat - (intOf d).toNat)
  case atStart => exact ⟨ByteArray.empty, [], 0, 0, rfl, rfl, rfl, rfl, rfl, Nat.le_refl _, Nat.zero_le _, ⟨Nat.le_refl _, Nat.zero_le _, rfl, rfl⟩, HC⟩
  case round =>
    obtain ⟨x, l, up, dn, rfl, HX, hsz, rfl, rfl, hle, hm, HB, HCr⟩ := hrel
    by_cases hd : dn < N
    · have hd1 : (dn : Int) < (N : Int) := by omega
      by_cases hu : up < N
      · have hu1 : (up : Int) < (N : Int) := by omega
        by_cases he : up = dn
        · have he1 : ((up : Int) == (dn : Int)) = true := by rw [beq_iff_eq]; omega
          go_wp2_with fail
          go_roundw
          case rel => exact ⟨_, l ++ [117], up + 1, dn, rfl, by show _ = _; rw [HX.out, ← toB_snoc], by rw [ByteArray.size_append, hsz]; show up + dn + 1 = _; omega, by go_num, rfl, by omega, hu, HB.out.up hu, HCr⟩
          case measure => simp [intOf]; omega
        · have he1 : ((up : Int) == (dn : Int)) = false := by rw [beq_eq_false_iff_ne]; omega
          go_wp2_with fail
          refine (HO.out _ HCr.out).mono ?_
          rintro e w1 ⟨⟨b, rfl⟩, hC1, hg1⟩
          have H1 := Lib.hid hC1
          clear hC1 hg1
          cases b with
          | true =>
            go_wp2_with fail
            go_roundw
            case rel => exact ⟨_, l ++ [117], up + 1, dn, rfl, by show _ = _; rw [HX.out, ← toB_snoc], by rw [ByteArray.size_append, hsz]; show up + dn + 1 = _; omega, by go_num, rfl, by omega, hu, HB.out.up hu, H1⟩
            case measure => simp [intOf]; omega
          | false =>
            go_wp2_with fail
            go_roundw
            case rel => exact ⟨_, l ++ [100], up, dn + 1, rfl, by show _ = _; rw [HX.out, ← toB_snoc], by rw [ByteArray.size_append, hsz]; show up + dn + 1 = _; omega, rfl, by go_num, by omega, hm, HB.out.dn (by omega), H1⟩
            case measure => simp [intOf]; omega
      · have hu1 : ¬ (up : Int) < (N : Int) := by omega
        go_wp2_with fail
        go_roundw
        case rel => exact ⟨_, l ++ [100], up, dn + 1, rfl, by show _ = _; rw [HX.out, ← toB_snoc], by rw [ByteArray.size_append, hsz]; show up + dn + 1 = _; omega, rfl, by go_num, by omega, hm, HB.out.dn (by omega), HCr⟩
        case measure => simp [intOf]; omega
    · have hd1 : ¬ (dn : Int) < (N : Int) := by omega
      obtain ⟨t, h1, h2⟩ := HB.out.tree hd
      have H1 := Lib.hid h1
      clear h1
      go_wp2_with fail
      go_ret
      exact ⟨⟨t, by rw [HX.out, H1.out]; rfl, by omega⟩, HCr.out⟩
end Go.Proofs.Ythbfockobnfomaa
