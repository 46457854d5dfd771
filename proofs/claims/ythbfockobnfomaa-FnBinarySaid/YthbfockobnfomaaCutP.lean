/-
  Where the path of a tree returns first, and the parts that it is cut into.
-/
import Derived.Test.YthbfockobnfomaaFirst
import Derived.Test.YthbfockobnfomaaBinP
import Derived.Test.YthbfockobnfomaaBsP
namespace Go.Proofs.Ythbfockobnfomaa
open Go.RowKit
theorem cut_tree (t : Tr) : ∀ (h : Nat) (r : List UInt8), cutGo (h + 1) (t.path ++ r) = (cutGo (h + 1) r).map (· + t.path.length) := by
  induction t with
  | lf => intro h r; show cutGo (h + 1) r = _; cases cutGo (h + 1) r <;> simp [Tr.path]
  | nd a b ha hb =>
    intro h r
    simp only [Tr.path, List.cons_append, List.append_assoc]
    have e1 : cutGo (h + 1) (117 :: (a.path ++ 100 :: (b.path ++ r))) = (cutGo (h + 1 + 1) (a.path ++ 100 :: (b.path ++ r))).map (· + 1) := by simp [cutGo]
    have e2 : cutGo (h + 1 + 1) (100 :: (b.path ++ r)) = (cutGo (h + 1) (b.path ++ r)).map (· + 1) := by simp [cutGo]
    rw [e1, ha, e2, hb]
    cases cutGo (h + 1) r <;> simp; omega
theorem cut_nd (a b : Tr) : cutGo 0 (Tr.nd a b).path = some (a.path.length + 1) := by
  have e1 : cutGo 0 (117 :: (a.path ++ 100 :: b.path)) = (cutGo (0 + 1) (a.path ++ 100 :: b.path)).map (· + 1) := by simp [cutGo]
  show cutGo 0 (117 :: (a.path ++ 100 :: b.path)) = _
  rw [e1, cut_tree]
  simp [cutGo]
theorem nd_front (a b : Tr) : (toB (Tr.nd a b).path).extract 0 (a.path.length + 1 + 1) = toB (117 :: (a.path ++ [100])) := by
  rw [extract_toB, toB_list, List.drop_zero, Nat.sub_zero]
  congr 1
  show (117 :: (a.path ++ 100 :: b.path)).take (a.path.length + 1 + 1) = _
  rw [List.take_succ_cons]
  congr 1
  rw [List.take_append]; simp [List.take_of_length_le]
theorem nd_back (a b : Tr) (n : Nat) (hn : n = (Tr.nd a b).path.length) : (toB (Tr.nd a b).path).extract (a.path.length + 1 + 1) n = toB b.path := by
  subst hn
  rw [extract_toB, toB_list]
  congr 1
  have e : (Tr.nd a b).path.drop (a.path.length + 1 + 1) = b.path := by
    show (117 :: (a.path ++ 100 :: b.path)).drop (a.path.length + 1 + 1) = _
    rw [List.drop_succ_cons, List.drop_append]; simp
  rw [e, List.take_of_length_le]
  show b.path.length ≤ (117 :: (a.path ++ 100 :: b.path)).length - _
  simp; omega
theorem nd_left (a b : Tr) : (toB (Tr.nd a b).path).extract 1 (a.path.length + 1) = toB a.path := by
  rw [extract_toB, toB_list]
  congr 1
  show ((117 :: (a.path ++ 100 :: b.path)).drop 1).take (a.path.length + 1 - 1) = _
  simp
end Go.Proofs.Ythbfockobnfomaa
