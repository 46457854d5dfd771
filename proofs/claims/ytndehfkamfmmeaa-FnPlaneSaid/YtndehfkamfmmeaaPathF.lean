/-
  Plain facts on paths, read off their trees: area, returns, peaks, heights, primes, and all of them of the path backwards.
-/
import Derived.Test.YtndehfkamfmmeaaPohP
import Derived.Test.YtndehfkamfmmeaaPrimP
import Derived.Test.YtndehfkamfmmeaaRevD
import Derived.Test.YtndehfkamfmmeaaArea
import Derived.Test.YtndehfkamfmmeaaPath1
namespace Go.Proofs.Ytndehfkamfmmeaa
open Go.RowKit
open Tr
theorem poh_hts {l : List UInt8} (h : dyck l = true) : pohV (hl l) = some l := by
  have h1 := (ok_of_path l 0 (dyck_path h) (by have := dyck_len h; omega)).2
  have e : word (hl l) = l := h1
  unfold pohV
  rw [e]
  exact if_pos ⟨h, rfl⟩
/-- The area of a tree's path at a height. -/
def areaT : Nat → Tr → Int
  | _, lf => 0
  | h, nd a b => (h : Int) + areaT (h + 1) a + areaT h b
theorem area_tree (t : Tr) : ∀ (h : Nat) (r : List UInt8), areaGo (t.path ++ r) ((h : Int) :: hts h (t.path ++ r)) = areaT h t + areaGo r ((h : Int) :: hts h r) := by
  induction t with
  | lf => intro h r; simp [Tr.path, areaT]
  | nd a b ha hb =>
    intro h r
    simp only [Tr.path, List.cons_append, List.append_assoc]
    rw [hts_u, area_u, ha, hts_d, area_x _ _ _ _ (by decide), Nat.add_sub_cancel, hb]
    simp only [areaT]; omega
theorem area_up (t : Tr) : ∀ h : Nat, areaT (h + 1) t = areaT h t + t.nodes := by
  induction t with
  | lf => intro h; rfl
  | nd a b ha hb => intro h; simp only [areaT, nodes, ha, hb]; omega
theorem areaV_tree (t : Tr) (hn : t.nodes ≤ 8) : areaV t.path = areaT 0 t := by
  rw [areaV_yes (path_dyck t hn)]
  have := area_tree t 0 []
  simp only [List.append_nil, areaGo] at this
  rw [Int.add_zero] at this
  exact this
/-- How many primes a tree has. -/
def spine : Tr → Nat
  | lf => 0
  | nd _ b => spine b + 1
theorem count_tree (t : Tr) : ∀ (h : Nat) (r : List UInt8), (hts h (t.path ++ r)).count 0 = (if h = 0 then spine t else 0) + (hts h r).count 0 := by
  induction t with
  | lf => intro h r; simp [Tr.path, spine]
  | nd a b ha hb =>
    intro h r
    simp only [Tr.path, List.cons_append, List.append_assoc]
    rw [hts_u, List.count_cons_of_ne (by omega), ha, hts_d, Nat.add_sub_cancel, if_neg (by omega)]
    by_cases h0 : h = 0
    · subst h0
      rw [show (((0 : Nat)) : Int) = 0 from rfl, List.count_cons_self, hb, if_pos rfl, if_pos rfl]
      simp only [spine]; omega
    · rw [List.count_cons_of_ne (by omega), hb, if_neg h0]; simp [h0]
theorem retV_tree (t : Tr) (hn : t.nodes ≤ 8) : retV t.path = spine t := by
  unfold retV
  rw [htsV_yes (path_dyck t hn)]
  have := count_tree t 0 []
  simp only [List.append_nil, if_pos] at this
  show (((0 : Int) :: hts 0 t.path).count 0 : Int) - 1 = _
  rw [List.count_cons_self, this]
  simp [hts]
theorem len_primes_spine (t : Tr) : (primes t).length = spine t := by
  induction t with
  | lf => rfl
  | nd a b _ hb => simp [primes, spine, hb]
theorem sizeV_tree (t : Tr) (hn : t.nodes ≤ 8) : sizeV t.path = t.nodes := by
  rw [sizeV_yes (path_dyck t hn), len_path]; omega
/-- How many peaks a tree's path has. -/
def pkT : Tr → Nat
  | lf => 0
  | nd lf b => 1 + pkT b
  | nd (nd c d) b => pkT (nd c d) + pkT b
theorem peaks_d (r : List UInt8) : peaks (100 :: r) = peaks r := by
  cases r with
  | nil => rfl
  | cons b r => exact peaks_miss _ _ _ (by rintro ⟨h, _⟩; exact absurd h (by decide))
theorem peaks_uu (r : List UInt8) : peaks (117 :: 117 :: r) = peaks (117 :: r) := peaks_miss _ _ _ (by decide)
theorem peaks_tree (t : Tr) : ∀ r : List UInt8, peaks (t.path ++ r) = pkT t + peaks r := by
  induction t with
  | lf => intro r; simp [Tr.path, pkT]
  | nd a b ha hb =>
    intro r
    cases a with
    | lf =>
      simp only [Tr.path, List.cons_append, List.nil_append, pkT]
      rw [peaks_hit, peaks_d, hb]; omega
    | nd c d =>
      have e : (nd (nd c d) b).path ++ r = 117 :: 117 :: (c.path ++ 100 :: d.path ++ 100 :: (b.path ++ r)) := by simp [Tr.path]
      rw [e, peaks_uu]
      have e2 : 117 :: (c.path ++ 100 :: d.path ++ 100 :: (b.path ++ r)) = (nd c d).path ++ 100 :: (b.path ++ r) := by simp [Tr.path]
      rw [e2, ha, peaks_d, hb]
      simp only [pkT]; omega
theorem peaksV_tree (t : Tr) (hn : t.nodes ≤ 8) : peaksV t.path = pkT t := by
  rw [peaksV_yes (path_dyck t hn)]
  have := peaks_tree t []
  rw [List.append_nil] at this
  rw [this]; simp [peaks]
/-- Two trees one behind the other. -/
def app : Tr → Tr → Tr
  | lf, t => t
  | nd a b, t => nd a (app b t)
theorem app_path (s t : Tr) : (app s t).path = s.path ++ t.path := by
  induction s with
  | lf => rfl
  | nd a b _ hb => simp [app, Tr.path, hb]
theorem app_nodes (s t : Tr) : (app s t).nodes = s.nodes + t.nodes := by
  induction s with
  | lf => simp [app, nodes]
  | nd a b _ hb => simp only [app, nodes, hb]; omega
theorem app_area (s t : Tr) (h : Nat) : areaT h (app s t) = areaT h s + areaT h t := by
  induction s with
  | lf => simp [app, areaT]
  | nd a b _ hb => simp only [app, areaT, hb]; omega
theorem app_pk (s t : Tr) : pkT (app s t) = pkT s + pkT t := by
  induction s with
  | lf => simp [app, pkT]
  | nd a b _ hb => cases a <;> simp only [app, pkT, hb] <;> omega
/-- The tree of the path backwards. -/
def rv : Tr → Tr
  | lf => lf
  | nd a b => app (rv b) (nd (rv a) lf)
theorem rev_app (a b : List UInt8) : rev (a ++ b) = rev b ++ rev a := by simp [rev]
theorem rv_path (t : Tr) : (rv t).path = rev t.path := by
  induction t with
  | lf => rfl
  | nd a b ha hb =>
    have e : (nd a b).path = [117] ++ (a.path ++ ([100] ++ b.path)) := by simp [Tr.path]
    rw [e, rev_app, rev_app, rev_app, ← ha, ← hb, rv, app_path]
    simp [Tr.path, rev]
theorem rv_nodes (t : Tr) : (rv t).nodes = t.nodes := by
  induction t with
  | lf => rfl
  | nd a b ha hb => simp only [rv, app_nodes, nodes, ha, hb]; omega
theorem rv_area (t : Tr) : ∀ h, areaT h (rv t) = areaT h t := by
  induction t with
  | lf => intro h; rfl
  | nd a b ha hb => intro h; simp only [rv, app_area, areaT, ha, hb]; omega
theorem pk_nd (a b : Tr) (h : a.nodes ≠ 0) : pkT (nd a b) = pkT a + pkT b := by
  cases a with
  | lf => exact absurd rfl h
  | nd c d => rfl
theorem rv_pk (t : Tr) : pkT (rv t) = pkT t := by
  induction t with
  | lf => rfl
  | nd a b ha hb =>
    by_cases h : a.nodes = 0
    · cases a with
      | lf => simp only [rv, app_pk, pkT, hb]; omega
      | nd c d => simp [nodes] at h
    · rw [pk_nd _ _ h, rv, app_pk, pk_nd _ _ (by rw [rv_nodes]; exact h), ha, hb]
      simp only [pkT]; omega
end Go.Proofs.Ytndehfkamfmmeaa
