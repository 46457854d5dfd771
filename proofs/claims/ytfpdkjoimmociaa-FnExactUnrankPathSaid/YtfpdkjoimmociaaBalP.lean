/-
  Plain lists of numbers: the rows of ballot numbers.
-/
import Derived.Test.YtfpdkjoimmociaaKit
namespace Go.Proofs.Ytfpdkjoimmociaa
/-- One row out of the row before it: place d, the number at its left, what the row before holds from d on. -/
def mkRow (u : Nat) : Nat → Nat → List Nat → List Nat
  | _, _, [] => []
  | d, p, x :: r => (if d < u then 0 else if d = u then x else x + p) :: mkRow u (d + 1) (if d < u then 0 else if d = u then x else x + p) r
def rows (D : Nat) : Nat → List Nat
  | 0 => List.replicate (D + 1) 1
  | u + 1 => mkRow (u + 1) 0 0 (rows D u)
theorem len_mkRow (u : Nat) : ∀ (l : List Nat) (d p : Nat), (mkRow u d p l).length = l.length := by
  intro l
  induction l with
  | nil => intro d p; rfl
  | cons x r ih => intro d p; simp [mkRow, ih]
theorem len_rows (D u : Nat) : (rows D u).length = D + 1 := by
  induction u with
  | zero => simp [rows]
  | succ u ih => simp [rows, len_mkRow, ih]
theorem mkRow_get (u : Nat) : ∀ (l : List Nat) (d p k : Nat), k < l.length → (mkRow u d p l).getD k 0 = if d + k < u then 0 else if d + k = u then l.getD k 0 else l.getD k 0 + (if k = 0 then p else (mkRow u d p l).getD (k - 1) 0) := by
  intro l
  induction l with
  | nil => intro d p k hk; simp at hk
  | cons x r ih =>
    intro d p k hk
    cases k with
    | zero => simp [mkRow]
    | succ k =>
      have h := ih (d + 1) (if d < u then 0 else if d = u then x else x + p) k (by simpa using hk)
      simp only [mkRow, List.getD_cons_succ]
      rw [h, show d + 1 + k = d + (k + 1) by omega]
      cases k with
      | zero => simp
      | succ k => simp
theorem rows_get (D u k : Nat) (hk : k ≤ D) : (rows D (u + 1)).getD k 0 = if k < u + 1 then 0 else if k = u + 1 then (rows D u).getD k 0 else (rows D u).getD k 0 + (rows D (u + 1)).getD (k - 1) 0 := by
  have h := mkRow_get (u + 1) (rows D u) 0 0 k (by rw [len_rows]; omega)
  rw [Nat.zero_add] at h
  show (mkRow (u + 1) 0 0 (rows D u)).getD k 0 = _
  rw [h]
  split
  · rfl
  · split
    · rfl
    · rw [if_neg (by omega)]; rfl
theorem rows_small : ∀ D, D < 16 → ∀ u, u < 16 → (rows D u).all (· ≤ 100000000) = true := by decide +kernel
theorem rows_le (D u k : Nat) (hD : D ≤ 15) (hu : u ≤ 15) : (rows D u).getD k 0 ≤ 100000000 := by
  have h := rows_small D (by omega) u (by omega)
  rw [List.all_eq_true] at h
  by_cases hk : k < (rows D u).length
  · have := h ((rows D u).getD k 0) (by simp [List.getD, hk])
    simpa using this
  · simp [List.getD, List.getElem?_eq_none (Nat.le_of_not_lt hk)]
def castL (l : List Nat) : List Int := l.map fun (n : Nat) => (n : Int)
theorem len_castL (l : List Nat) : (castL l).length = l.length := by simp [castL]
theorem castL_get (l : List Nat) (k : Nat) (h : k < l.length) : (castL l).getD k 0 = ((l.getD k 0 : Nat) : Int) := by simp [castL, List.getD, h]
/-- The new row when it has been filled up to place d. -/
def nx (D u d : Nat) : List Int := castL ((rows D u).take d ++ List.replicate (D + 1 - d) 0)
theorem len_nx (D u d : Nat) (h : d ≤ D + 1) : (nx D u d).length = D + 1 := by simp [nx, len_castL, len_rows]; omega
theorem nx_set (D u d : Nat) (h : d ≤ D) : (nx D u d).set d (((rows D u).getD d 0 : Nat) : Int) = nx D u (d + 1) := by
  unfold nx castL
  rw [← List.map_set]
  congr 1
  have hl : ((rows D u).take d).length = d := by simp [len_rows]; omega
  rw [show D + 1 - d = (D - d) + 1 by omega, List.replicate_succ]
  have e : ((rows D u).take d ++ 0 :: List.replicate (D - d) 0).set d ((rows D u).getD d 0) = (rows D u).take d ++ (rows D u).getD d 0 :: List.replicate (D - d) 0 := by
    conv => lhs; arg 2; rw [← hl]
    simp
  have e3 : (rows D u).take (d + 1) = (rows D u).take d ++ [(rows D u).getD d 0] := by
    rw [List.take_succ_eq_append_getElem (by rw [len_rows]; omega)]; simp [List.getD, len_rows, show d < D + 1 by omega]
  rw [e, show D + 1 - (d + 1) = D - d by omega, e3, List.append_assoc]; rfl
theorem nx_get (D u d k : Nat) (hd : d ≤ D + 1) (hk : k < d) : (nx D u d).getD k 0 = (((rows D u).getD k 0 : Nat) : Int) := by
  unfold nx
  rw [castL_get _ _ (by simp [len_rows]; omega)]
  congr 1
  unfold List.getD
  rw [List.getElem?_append_left (by simp [len_rows]; omega), List.getElem?_take_of_lt hk]
theorem nx_full (D u : Nat) : nx D u (D + 1) = castL (rows D u) := by
  unfold nx; rw [List.take_of_length_le (by rw [len_rows]; exact Nat.le_refl _)]; simp
theorem nx_start (D u : Nat) (hu : u + 1 ≤ D + 1) : nx D (u + 1) (u + 1) = List.replicate (D + 1) 0 := by
  unfold nx castL
  have e : (rows D (u + 1)).take (u + 1) = List.replicate (u + 1) 0 := by
    apply List.ext_getElem
    · simp [len_rows]; omega
    · intro i h1 h2
      have hi : i < u + 1 := by simpa using h2
      have h := rows_get D u i (by omega)
      rw [if_pos hi] at h
      simp only [List.getElem_take, List.getElem_replicate]
      simpa [List.getD, len_rows, show i < D + 1 by omega] using h
  rw [e, List.replicate_append_replicate, show u + 1 + (D + 1 - (u + 1)) = D + 1 by omega]
  simp
/-- The ballot number. -/
def balV (up down : Nat) : Int := (((rows down up).getD down 0 : Nat) : Int)
end Go.Proofs.Ytfpdkjoimmociaa
