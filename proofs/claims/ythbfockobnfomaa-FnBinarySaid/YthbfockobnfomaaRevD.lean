/-
  The word backwards with u and d exchanged, as a list of bytes: of a path it is a path, and twice it is the word.
-/
import Derived.Test.YthbfockobnfomaaDyckP
import Derived.Test.YthbfockobnfomaaBsP
namespace Go.Proofs.Ythbfockobnfomaa
open Go.RowKit
def rev (l : List UInt8) : List UInt8 := l.reverse.map fun c => if c = 117 then 100 else 117
theorem rev_cons (c : UInt8) (r : List UInt8) : rev (c :: r) = rev r ++ [if c = 117 then 100 else 117] := by simp [rev]
theorem len_rev (l : List UInt8) : (rev l).length = l.length := by simp [rev]
theorem hgo_app : ∀ (a b : List UInt8) (h : Nat), hgo h (a ++ b) = (hgo h a).bind fun x => hgo x b := by
  intro a
  induction a with
  | nil => intro b h; rfl
  | cons c r ih =>
    intro b h
    by_cases h1 : c = 117
    · subst h1; rw [List.cons_append, hgo_u, hgo_u, ih]
    · by_cases h2 : c = 100
      · subst h2
        cases h with
        | zero => rw [List.cons_append, hgo_d0, hgo_d0]; rfl
        | succ h => rw [List.cons_append, hgo_d, hgo_d, ih]
      · rw [List.cons_append, hgo_x _ _ _ h1 h2, hgo_x _ _ _ h1 h2]; rfl
theorem hgo_rev : ∀ (l : List UInt8) (h e : Nat), hgo h l = some e → hgo e (rev l) = some h := by
  intro l
  induction l with
  | nil => intro h e hg; simp [hgo] at hg; subst hg; rfl
  | cons c r ih =>
    intro h e hg
    rcases hgo_letters hg c (by simp) with rfl | rfl
    · rw [hgo_u] at hg
      rw [rev_cons, hgo_app, ih _ _ hg]
      simp [hgo]
    · cases h with
      | zero => rw [hgo_d0] at hg; cases hg
      | succ h =>
        rw [hgo_d] at hg
        rw [rev_cons, hgo_app, ih _ _ hg]
        simp [hgo]
theorem dyck_rev {l : List UInt8} (h : dyck l = true) : dyck (rev l) = true := by
  have h1 := dyck_len h
  have h2 := hgo_rev l 0 0 (dyck_path h)
  simp only [dyck, isPath, h2, len_rev, Bool.and_eq_true, decide_eq_true_eq, beq_self_eq_true, and_true]
  exact h1
theorem rev_rev {l : List UInt8} (h : ∀ c ∈ l, c = 117 ∨ c = 100) : rev (rev l) = l := by
  unfold rev
  rw [← List.map_reverse, List.reverse_reverse, List.map_map]
  conv => rhs; rw [← List.map_id l]
  apply List.map_congr_left
  intro c hc
  rcases h c hc with rfl | rfl <;> simp
theorem rev_rev_dyck {l : List UInt8} (h : dyck l = true) : rev (rev l) = l := rev_rev (hgo_letters (dyck_path h))
end Go.Proofs.Ythbfockobnfomaa
