/-
  What a slice of numbers reads as, at a place.
-/
import Derived.Test.YthbfockobnfomaaInts
namespace Go.Proofs.Ythbfockobnfomaa
open Go.RowKit
theorem Rd.form {k : IntKind} {w : World} {A : Option Addr} {l : List Int} (h : Rd k w A l) (h0 : 0 < l.length) : ∃ b o, A = some ⟨b, o, none⟩ := by
  obtain ⟨b, o, hA, _⟩ := h 0 h0
  exact ⟨b, o, hA⟩
theorem Rd.at_ {k : IntKind} {w : World} {b o : Nat} {l : List Int} (h : Rd k w (some ⟨b, o, none⟩) l) (i : Nat) (hi : i < l.length) : w.cell? ⟨b, o + i, none⟩ = some (.int k (l.getD i 0)) := by
  obtain ⟨b', o', hA, _, hc⟩ := h i hi
  simp only [Option.some.injEq, Addr.mk.injEq, and_true] at hA
  obtain ⟨rfl, rfl⟩ := hA
  exact hc
end Go.Proofs.Ythbfockobnfomaa
