/-
  Small facts on numbers: bits and shifts at int and uint8, ranges (within, l1In).
-/
import Derived.Test.YthbfockobnfomaaRows
import Derived.Test.YthbfockobnfomaaKit
namespace Go.Proofs.Ythbfockobnfomaa
open Go.RowKit
theorem ofInt_i64 (a : Nat) (ha : a < 9223372036854775808) : (BitVec.ofInt 64 (a : Int)).toNat = a := by
  rw [BitVec.ofInt_natCast, BitVec.toNat_ofNat]; exact Nat.mod_eq_of_lt (by omega)
theorem and_i64 (a b : Nat) (ha : a < 9223372036854775808) (hb : b < 9223372036854775808) : bits .and .i64 (a : Int) (b : Int) = ((a &&& b : Nat) : Int) := by
  have hx : a &&& b < 2 ^ 63 := Nat.and_lt_two_pow _ (by omega)
  show IntKind.i64.wrap ((BitVec.ofInt 64 (a : Int) &&& BitVec.ofInt 64 (b : Int)).toNat : Int) = _
  rw [BitVec.toNat_and, ofInt_i64 a ha, ofInt_i64 b hb, IntKind.wrap_i64]
  omega
theorem or_i64 (a b : Nat) (ha : a < 9223372036854775808) (hb : b < 9223372036854775808) : bits .or .i64 (a : Int) (b : Int) = ((a ||| b : Nat) : Int) := by
  have hx : a ||| b < 2 ^ 63 := Nat.or_lt_two_pow (by omega) (by omega)
  show IntKind.i64.wrap ((BitVec.ofInt 64 (a : Int) ||| BitVec.ofInt 64 (b : Int)).toNat : Int) = _
  rw [BitVec.toNat_or, ofInt_i64 a ha, ofInt_i64 b hb, IntKind.wrap_i64]
  omega
/-- n << 8 | b, b a byte. -/
theorem or_byte (n b : Nat) (hb : b < 256) : n * 256 ||| b = n * 256 + b := by
  have := Nat.two_pow_add_eq_or_of_lt (i := 8) (b := b) hb n
  rw [Nat.mul_comm n 256]; exact this.symm

theorem and127 (n : Nat) (h : n < 9223372036854775808) : bits BinOp.and IntKind.i64 (n : Int) 127 = (n : Int) % 128 := by
  rw [show (127 : Int) = ((127 : Nat) : Int) from rfl, and_i64 n 127 h (by decide), nat_mask7]; rfl
theorem or128 (n : Nat) : bits BinOp.or IntKind.i64 ((n : Int) % 128) 128 = (n : Int) % 128 + 128 := by
  have e : (128 : Nat) ||| (n % 128) = 128 + n % 128 := by
    have := Nat.two_pow_add_eq_or_of_lt (i := 7) (b := n % 128) (Nat.mod_lt _ (by decide)) 1
    simpa using this.symm
  rw [show (n : Int) % 128 = ((n % 128 : Nat) : Int) from rfl, show (128 : Int) = ((128 : Nat) : Int) from rfl, or_i64 _ 128 (by omega) (by decide), Nat.or_comm, e]; omega
theorem within_yes (x lo hi : Int) (w : World) (h1 : lo ≤ x) (h2 : x ≤ hi) : Calls Try.prog 61 #[.int .i64 x, .int .i64 lo, .int .i64 hi] w fun e w' => e = .returned (.bool true) ∧ w = w' := by
  go_enter Try.func61, Try.ntmps61
  go_wp2
  go_ret
  exact ⟨rfl, rfl⟩
theorem within_no (x lo hi : Int) (w : World) (h : x < lo ∨ hi < x) : Calls Try.prog 61 #[.int .i64 x, .int .i64 lo, .int .i64 hi] w fun e w' => e = .returned (.bool false) ∧ w = w' := by
  by_cases h1 : lo ≤ x
  · have h2 : hi < x := by omega
    clear h
    go_enter Try.func61, Try.ntmps61
    go_wp2
    go_ret
    refine ⟨ret_bool ?_, rfl⟩
    show decide (x ≤ hi) = false
    simp; omega
  · clear h
    go_enter Try.func61, Try.ntmps61
    go_wp2
    go_ret
    exact ⟨rfl, rfl⟩
theorem in_yes (x lo hi : Int) (w : World) (h1 : lo ≤ x) (h2 : x ≤ hi) : Calls Try.prog 59 #[.int .i64 x, .int .i64 lo, .int .i64 hi] w fun e w' => e = .returned (.bool true) ∧ w = w' := by
  go_enter Try.func59, Try.ntmps59
  go_wp2
  go_ret
  exact ⟨rfl, rfl⟩
theorem in_no (x lo hi : Int) (w : World) (h : x < lo ∨ hi < x) : Calls Try.prog 59 #[.int .i64 x, .int .i64 lo, .int .i64 hi] w fun e w' => e = .returned (.bool false) ∧ w = w' := by
  by_cases h1 : lo ≤ x
  · have h2 : hi < x := by omega
    clear h
    go_enter Try.func59, Try.ntmps59
    go_wp2
    go_ret
    refine ⟨ret_bool ?_, rfl⟩
    show decide (x ≤ hi) = false
    simp; omega
  · clear h
    go_enter Try.func59, Try.ntmps59
    go_wp2
    go_ret
    exact ⟨rfl, rfl⟩
/-- Whether x lies from lo to hi. -/
def inR (x lo hi : Int) : Bool := decide (lo ≤ x) && decide (x ≤ hi)
theorem inR_yes {x lo hi : Int} (h1 : lo ≤ x) (h2 : x ≤ hi) : inR x lo hi = true := by simp [inR, h1, h2]
theorem inR_no {x lo hi : Int} (h : ¬ (lo ≤ x ∧ x ≤ hi)) : inR x lo hi = false := by
  cases hr : inR x lo hi with
  | false => rfl
  | true => simp [inR] at hr; exact absurd hr h
theorem inR_out {x lo hi : Int} (h : inR x lo hi = true) : lo ≤ x ∧ x ≤ hi := by simpa [inR] using h
theorem withinC (x lo hi : Int) (w : World) : Calls Try.prog 61 #[.int .i64 x, .int .i64 lo, .int .i64 hi] w fun e w' => e = .returned (.bool (inR x lo hi)) ∧ w = w' := by
  by_cases h : lo ≤ x ∧ x ≤ hi
  · rw [inR_yes h.1 h.2]; exact within_yes x lo hi w h.1 h.2
  · rw [inR_no h]; exact within_no x lo hi w (by omega)
theorem inC (x lo hi : Int) (w : World) : Calls Try.prog 59 #[.int .i64 x, .int .i64 lo, .int .i64 hi] w fun e w' => e = .returned (.bool (inR x lo hi)) ∧ w = w' := by
  by_cases h : lo ≤ x ∧ x ≤ hi
  · rw [inR_yes h.1 h.2]; exact in_yes x lo hi w h.1 h.2
  · rw [inR_no h]; exact in_no x lo hi w (by omega)
end Go.Proofs.Ythbfockobnfomaa
