/-
  Plain facts on binary trees: the powers of a half at the levels of the leaves add up to one.
-/
import Derived.Test.YthbfockobnfomaaBinP
namespace Go.Proofs.Ythbfockobnfomaa
open Tr
/-- 256 halved as often as said. -/
def pw (x : Int) : Int := ((256 / 2 ^ x.toNat : Nat) : Int)
def pws : List Int → Int
  | [] => 0
  | x :: r => pw x + pws r
theorem pws_app (a b : List Int) : pws (a ++ b) = pws a + pws b := by
  induction a with
  | nil => simp [pws]
  | cons x r ih => simp only [List.cons_append, pws, ih]; omega
theorem pw_half (d : Nat) (h : d + 1 ≤ 8) : pw ((d + 1 : Nat) : Int) + pw ((d + 1 : Nat) : Int) = pw (d : Int) := by
  unfold pw
  match d, h with
  | 0, _ | 1, _ | 2, _ | 3, _ | 4, _ | 5, _ | 6, _ | 7, _ => decide
theorem pws_tree (t : Tr) : ∀ d : Nat, d + t.nodes ≤ 8 → pws (t.lev d) = pw (d : Int) := by
  induction t with
  | lf => intro d _; simp [lev, pws]
  | nd a b ha hb =>
    intro d hd
    simp only [nodes] at hd
    simp only [lev, pws_app]
    rw [ha _ (by omega), hb _ (by omega), pw_half d (by omega)]
theorem pws_256 (t : Tr) (h : t.nodes ≤ 8) : pws (t.lev 0) = 256 := by
  rw [show (256 : Int) = pw ((0 : Nat) : Int) from rfl]
  exact pws_tree t 0 (by omega)
end Go.Proofs.Ythbfockobnfomaa
