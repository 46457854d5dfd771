/-
  laws.sameInts, walked: of equal rows it answers true.
-/
import Derived.Test.YthbfockobnfomaaInts
namespace Go.Proofs.Ythbfockobnfomaa
open Go.RowKit
set_option maxRecDepth 100000 in
theorem sameC (A B : Option Addr) (c d : Nat) (l : List Int) (w : World) (ha : Rd .i64 w A l) (hb : Rd .i64 w B l) (hn : l.length ≤ 1073741824) :
    Calls Try.prog 40 #[.slice A l.length c, .slice B l.length d] w fun e w' => e = .returned (.bool true) ∧ Below w.heap.size w w' := by
  obtain ⟨n, hnn⟩ : ∃ n, n = l.length := ⟨_, rfl⟩
  rw [← hnn] at hn ⊢
  have HN := Lib.hid hnn
  have HA := Lib.hid ha
  have HB := Lib.hid hb
  clear hnn ha hb
  go_enter Try.func40, Try.ntmps40
  go_wp2
  go_loopw [5] (fun i wr => ∃ k : Nat, k ≤ n ∧ i = .int .i64 k ∧ Hid (∃ m, wr = w.drewN m)) (fun i _ => n - (intOf i).toNat)
  case atStart => exact ⟨0, Nat.zero_le _, rfl, 0, rfl⟩
  case round =>
    obtain ⟨k, hk, rfl, HW⟩ := hrel
    by_cases hlt : k < n
    · obtain ⟨b1, o1, rfl, _, hc1⟩ := HA.out k (by rw [← HN.out]; exact hlt)
      obtain ⟨b2, o2, rfl, _, hc2⟩ := HB.out k (by rw [← HN.out]; exact hlt)
      obtain ⟨m, rfl⟩ := HW.out
      obtain ⟨x, hx⟩ : ∃ x, x = l.getD k 0 := ⟨_, rfl⟩
      rw [← hx] at hc1 hc2
      have hlt' : (k : Int) < (n : Int) := by omega
      have hk0 : (0 : Int) ≤ (k : Int) := by omega
      clear hx
      go_wp2_with fail
      go_quiet (fail)
      go_wp2
      go_roundw
      case rel => exact ⟨k + 1, by omega, by go_num, _, by first | rfl | rw [World.drewN_drewN]⟩
      case measure => simp [intOf]; omega
    · obtain ⟨m, rfl⟩ := HW.out
      go_wp2
      go_ret
      exact ⟨rfl, below_drewN (Below.refl _ _) _⟩
end Go.Proofs.Ythbfockobnfomaa
