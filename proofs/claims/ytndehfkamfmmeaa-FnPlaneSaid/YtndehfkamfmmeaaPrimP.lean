/-
  The parts of a path between its returns, in plain Lean: read letter by letter, and off the tree of the path.
-/
import Derived.Test.YtndehfkamfmmeaaBinP
namespace Go.Proofs.Ytndehfkamfmmeaa
open Tr
/-- cur: the letters since the last return; h: the height now. -/
def prGo : List UInt8 → Nat → List UInt8 → List (List UInt8)
  | _, _, [] => []
  | cur, h, c :: r => if c = 117 then prGo (cur ++ [c]) (h + 1) r else if h ≤ 1 then (cur ++ [c]) :: prGo [] 0 r else prGo (cur ++ [c]) (h - 1) r
theorem prGo_u (cur : List UInt8) (h : Nat) (r : List UInt8) : prGo cur h (117 :: r) = prGo (cur ++ [117]) (h + 1) r := by simp [prGo]
theorem prGo_d (cur : List UInt8) (h : Nat) (r : List UInt8) : prGo cur (h + 2) (100 :: r) = prGo (cur ++ [100]) (h + 1) r := by simp [prGo]
theorem prGo_d1 (cur : List UInt8) (r : List UInt8) : prGo cur 1 (100 :: r) = (cur ++ [100]) :: prGo [] 0 r := by simp [prGo]
theorem prGo_tree (t : Tr) : ∀ (cur : List UInt8) (h : Nat) (r : List UInt8), prGo cur (h + 1) (t.path ++ r) = prGo (cur ++ t.path) (h + 1) r := by
  induction t with
  | lf => intro cur h r; simp [path]
  | nd a b ha hb =>
    intro cur h r
    simp only [path, List.cons_append, List.append_assoc]
    rw [prGo_u, ha, prGo_d, hb]
    simp
def primes : Tr → List (List UInt8)
  | lf => []
  | nd a b => (117 :: (a.path ++ [100])) :: primes b
theorem prGo_primes (t : Tr) : prGo [] 0 t.path = primes t := by
  induction t with
  | lf => rfl
  | nd a b _ hb =>
    simp only [path, primes]
    rw [prGo_u, prGo_tree, prGo_d1, hb]
    simp
theorem primes_flat (t : Tr) : (primes t).flatten = t.path := by
  induction t with
  | lf => rfl
  | nd a b _ hb => simp [primes, path, hb]
theorem len_primes (t : Tr) : (primes t).length ≤ t.nodes := by
  induction t with
  | lf => exact Nat.le_refl _
  | nd a b _ hb => simp only [primes, nodes, List.length_cons]; omega
theorem prime_tree (t : Tr) : ∀ p ∈ primes t, ∃ a : Tr, p = (nd a lf).path ∧ a.nodes < t.nodes := by
  induction t with
  | lf => intro p hp; cases hp
  | nd a b _ hb =>
    intro p hp
    rcases List.mem_cons.1 hp with rfl | h
    · exact ⟨a, by simp [path], by simp only [nodes]; omega⟩
    · obtain ⟨c, h1, h2⟩ := hb p h
      exact ⟨c, h1, by simp only [nodes]; omega⟩
end Go.Proofs.Ytndehfkamfmmeaa
