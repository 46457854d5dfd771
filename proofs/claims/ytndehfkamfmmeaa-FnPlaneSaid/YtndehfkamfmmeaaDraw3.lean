/-
  The reference's draws of whole arguments for the integer encodings.
-/
import Derived.Test.YtndehfkamfmmeaaDraw2
namespace Go.Proofs.Ytndehfkamfmmeaa
open Go.RowKit
/-- The code, as a draw wants it. -/
structure CodeAt (w : World) (A : Option Addr) (n : Nat) (zs : List Int) : Prop where
  row : Rd .u8 w A zs
  len : zs.length = n
  small : n ≤ 1048576
  bytes : ∀ x ∈ zs, (Lit.int .u8 x).wf = true
theorem CodeAt.keep {w w' : World} {A : Option Addr} {n : Nat} {zs : List Int} (h : CodeAt w A n zs) (hb : Below w.heap.size w w') : CodeAt w' A n zs := ⟨h.row.keep hb, h.len, h.small, h.bytes⟩
theorem newK (A : Option Addr) (n c : Nat) (zs : List Int) (w : World) (h : CodeAt w A n zs) :
    Calls Try.prog 70 #[.slice A n c] w fun e w' => ∃ q, e = .returned (.pointer (some ⟨q, 0, none⟩)) ∧ Cur w w' q A n c zs := by
  refine (newC A n c zs w w h.row h.len h.small h.bytes (Below.refl _ _)).mono ?_
  rintro e w' ⟨q, rfl, hC, _⟩
  exact ⟨q, rfl, hC⟩
set_option maxRecDepth 100000 in
theorem drawVarint (A : Option Addr) (n c : Nat) (zs : List Int) (w : World) (h : CodeAt w A n zs) :
    Calls Try.prog 49 #[.slice A n c] w fun e w' => (∃ x : Int, e = .returned (.int .i64 x) ∧ -9223372036854775808 ≤ x ∧ x ≤ 9223372036854775807) ∧ Below w.heap.size w w' := by
  have HN := Lib.hid (newK A n c zs w h)
  clear h
  go_enter Try.func49, Try.ntmps49
  go_wp2_with fail
  refine HN.out.mono ?_
  rintro e w1 ⟨q, rfl, hC⟩
  go_wp2_with fail
  refine (numC w w1 q A n c zs hC).mono ?_
  rintro e w2 ⟨⟨x, rfl, hx⟩, hC2⟩
  go_wp2_with fail
  go_ret
  exact ⟨⟨_, rfl, hx⟩, hC2.bel⟩
set_option maxRecDepth 100000 in
theorem drawHex (A : Option Addr) (n c : Nat) (zs : List Int) (w : World) (h : CodeAt w A n zs) :
    Calls Try.prog 50 #[.slice A n c] w fun e w' => (∃ s : ByteArray, e = .returned (.string s) ∧ s.size ≤ 40) ∧ Below w.heap.size w w' := by
  have HN := Lib.hid (newK A n c zs w h)
  clear h
  go_enter Try.func50, Try.ntmps50
  go_wp2_with fail
  refine HN.out.mono ?_
  rintro e w1 ⟨q, rfl, hC⟩
  go_wp2_with fail
  refine (textC w w1 q A n c zs hC 40 (by decide)).mono ?_
  rintro e w2 ⟨⟨x, rfl, hx⟩, hC2⟩
  go_wp2_with fail
  go_ret
  exact ⟨⟨_, rfl, hx⟩, hC2.bel⟩
set_option maxRecDepth 100000 in
theorem drawFixed (A : Option Addr) (n c : Nat) (zs : List Int) (w : World) (h : CodeAt w A n zs) :
    Calls Try.prog 53 #[.slice A n c] w fun e w' => (∃ x y : Int, e = .returned (.tuple #[.int .i64 x, .int .i64 y]) ∧ (-9223372036854775808 ≤ x ∧ x ≤ 9223372036854775807) ∧ -1 ≤ y ∧ y ≤ 8) ∧ Below w.heap.size w w' := by
  have HN := Lib.hid (newK A n c zs w h)
  clear h
  go_enter Try.func53, Try.ntmps53
  go_wp2_with fail
  refine HN.out.mono ?_
  rintro e w1 ⟨q, rfl, hC⟩
  go_wp2_with fail
  refine (numC w w1 q A n c zs hC).mono ?_
  rintro e w2 ⟨⟨x, rfl, hx⟩, hC2⟩
  have HC2 := Lib.hid hC2
  clear hC2
  go_wp2_with fail
  refine (belowC w w2 q A n c zs HC2.out 10 (by decide) (by decide)).mono ?_
  rintro e w3 ⟨⟨y, rfl, hy⟩, hC3, hg3⟩
  go_wp2_with fail
  go_ret2
  exact ⟨⟨_, _, rfl, hx, by omega, by omega⟩, hC3.bel⟩
end Go.Proofs.Ytndehfkamfmmeaa
