/-
  The reference's draws of whole arguments for the integer encodings.
-/
import Derived.Test.YthbfockobnfomaaDraw2
namespace Go.Proofs.Ythbfockobnfomaa
open Go.RowKit
/-- The code, as a draw wants it. -/
structure CodeAt (w : World) (A : Option Addr) (n : Nat) (zs : List Int) : Prop where
  row : Rd .u8 w A zs
  len : zs.length = n
  small : n ≤ 1048576
  bytes : ∀ x ∈ zs, (Lit.int .u8 x).wf = true
theorem CodeAt.keep {w w' : World} {A : Option Addr} {n : Nat} {zs : List Int} (h : CodeAt w A n zs) (hb : Below w.heap.size w w') : CodeAt w' A n zs := ⟨h.row.keep hb, h.len, h.small, h.bytes⟩
theorem newK (A : Option Addr) (n c : Nat) (zs : List Int) (w : World) (h : CodeAt w A n zs) :
    Calls Try.prog 73 #[.slice A n c] w fun e w' => ∃ q, e = .returned (.pointer (some ⟨q, 0, none⟩)) ∧ Cur w w' q A n c zs := by
  refine (newC A n c zs w w h.row h.len h.small h.bytes (Below.refl _ _)).mono ?_
  rintro e w' ⟨q, rfl, hC, _⟩
  exact ⟨q, rfl, hC⟩
end Go.Proofs.Ythbfockobnfomaa
