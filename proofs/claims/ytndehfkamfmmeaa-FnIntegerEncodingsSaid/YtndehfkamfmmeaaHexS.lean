/-
  spec.EncodeHex and the law laws.FnExactEncodeHex, walked.
-/
import Derived.Test.YtndehfkamfmmeaaHexI
namespace Go.Proofs.Ytndehfkamfmmeaa
open Go.RowKit
theorem wrap_byte (c : UInt8) : IntKind.i64.wrap (c.toNat : Int) = (c.toNat : Int) := IntWalk.i64_in _ ⟨by omega, by have := c.toNat_lt; omega⟩
theorem wrap_div16 (c : UInt8) : IntKind.i64.wrap ((IntKind.i64.wrap (c.toNat : Int)).tdiv 16) = ((c.toNat / 16 : Nat) : Int) := by
  rw [wrap_byte, Int.tdiv_eq_ediv_of_nonneg (by omega), IntWalk.i64_in _ ⟨by omega, by have := c.toNat_lt; omega⟩]; omega
theorem wrap_mod16 (c : UInt8) : (IntKind.i64.wrap (c.toNat : Int)).tmod 16 = ((c.toNat % 16 : Nat) : Int) := by
  rw [wrap_byte, Int.tmod_eq_emod_of_nonneg (by omega)]; omega

end Go.Proofs.Ytndehfkamfmmeaa
