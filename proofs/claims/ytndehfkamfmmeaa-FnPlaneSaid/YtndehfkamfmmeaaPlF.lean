/-
  Plain facts on plane trees: the sum of the levels, how many leaves there are, and the mirror's mirror.
-/
import Derived.Test.YtndehfkamfmmeaaPathF
import Derived.Test.YtndehfkamfmmeaaCh
import Derived.Test.YtndehfkamfmmeaaLev
import Derived.Test.YtndehfkamfmmeaaMir
namespace Go.Proofs.Ytndehfkamfmmeaa
open Go.RowKit
open Tr
def tot : List Int → Int
  | [] => 0
  | x :: r => x + tot r
theorem tot_app (a b : List Int) : tot (a ++ b) = tot a + tot b := by
  induction a with
  | nil => simp [tot]
  | cons x r ih => simp only [List.cons_append, tot, ih]; omega
/-- The heights behind the letters u. -/
def upsH : Nat → List UInt8 → List Int
  | _, [] => []
  | h, c :: r => if c = 117 then ((h + 1 : Nat) : Int) :: upsH (h + 1) r else upsH (h - 1) r
theorem lv_pl : ∀ (l : List UInt8) (i : Nat) (s : List Nat) (k : Nat), Falls s → top s < (i : Int) → k < s.length → hgo (s.length - 1 - k) l = some 0 →
    lvGo i s (plOf i (s.drop k) l) = upsH (s.length - 1 - k) l := by
  intro l
  induction l with
  | nil => intro i s k _ _ _ _; rfl
  | cons c r ih =>
    intro i s k hf hi hk hg
    rcases hgo_letters hg c (by simp) with rfl | rfl
    · rw [hgo_u] at hg
      obtain ⟨h1, h2⟩ := pop_drop hf k hk
      have hfd := hf.drop k
      have htd : top (s.drop k) < (i : Int) := by
        cases hx : s.drop k with
        | nil => simp [top]; omega
        | cons b q =>
          have hb : b ∈ s := List.mem_of_mem_drop (i := k) (by rw [hx]; simp)
          have := hf.lt b hb
          simp only [top]; omega
      have hi' : top (i :: s.drop k) < ((i + 1 : Nat) : Int) := by simp only [top]; omega
      have hlen : (i :: s.drop k).length - 1 - 0 = s.length - 1 - k + 1 := by simp; omega
      have h3 := ih (i + 1) (i :: s.drop k) 0 (hfd.push htd) hi' (by simp) (by rw [hlen]; exact hg)
      simp only [plOf, if_pos, lvGo, upsH]
      rw [List.drop_zero, hlen] at h3
      rw [h1, h3]
      congr 1
      simp; omega
    · have e : plOf i (s.drop k) (100 :: r) = plOf i (s.drop (k + 1)) r := by
        simp only [plOf, if_neg (show ¬ (100 : UInt8) = 117 by decide), List.tail_drop]
      cases hh : s.length - 1 - k with
      | zero => rw [hh, hgo_d0] at hg; cases hg
      | succ m =>
        rw [hh, hgo_d] at hg
        have h1 := ih i s (k + 1) hf hi (by omega) (by rw [show s.length - 1 - (k + 1) = m by omega]; exact hg)
        rw [e, h1, show s.length - 1 - (k + 1) = m by omega]
        simp only [upsH, if_neg (show ¬ (100 : UInt8) = 117 by decide), Nat.add_sub_cancel]
theorem ups_tree (t : Tr) : ∀ (h : Nat) (r : List UInt8), tot (upsH h (t.path ++ r)) = areaT h t + t.nodes + tot (upsH h r) := by
  induction t with
  | lf => intro h r; simp [Tr.path, areaT, nodes]
  | nd a b ha hb =>
    intro h r
    simp only [Tr.path, List.cons_append, List.append_assoc, upsH, if_pos, tot]
    rw [ha]
    simp only [upsH, if_neg (show ¬ (100 : UInt8) = 117 by decide), Nat.add_sub_cancel]
    rw [hb]
    simp only [areaT, nodes]; omega
theorem levels_tot (t : Tr) (hn : t.nodes ≤ 8) : tot (levels (planeOf t.path)) = areaV t.path + sizeV t.path := by
  have hd := path_dyck t hn
  have h := lv_pl t.path 1 [0] 0 ⟨by simp [top], trivial⟩ (by simp [top]) (by simp) (dyck_path hd)
  have h2 := ups_tree t 0 []
  rw [levels_yes (plane_planeOf hd), areaV_tree t hn, sizeV_tree t hn]
  simp only [List.drop_zero] at h
  simp only [planeOf, List.drop_one, List.tail_cons, tot]
  rw [h]
  simp only [List.append_nil, upsH, tot, List.length_cons, List.length_nil] at h2 ⊢
  simpa using h2
theorem levels_small (t : Tr) (hn : t.nodes ≤ 8) : ∀ x ∈ levels (planeOf t.path), 0 ≤ x ∧ x ≤ 16 := by
  have hd := path_dyck t hn
  have h := lv_pl t.path 1 [0] 0 ⟨by simp [top], trivial⟩ (by simp [top]) (by simp) (dyck_path hd)
  have hu : ∀ (l : List UInt8) (h : Nat), ∀ x ∈ upsH h l, 0 ≤ x ∧ x ≤ (h : Int) + l.length := by
    intro l
    induction l with
    | nil => intro h x hx; cases hx
    | cons c r ih =>
      intro h x hx
      simp only [upsH] at hx
      split at hx
      · rcases List.mem_cons.1 hx with rfl | hx
        · simp; omega
        · have := ih _ x hx; simp at this ⊢; omega
      · have := ih _ x hx; simp at this ⊢; omega
  intro x hx
  rw [levels_yes (plane_planeOf hd)] at hx
  simp only [List.drop_zero] at h
  simp only [planeOf, List.drop_one, List.tail_cons] at hx
  rcases List.mem_cons.1 hx with rfl | hx
  · omega
  · rw [h] at hx
    have h2 := hu _ _ x hx
    have h3 := dyck_len hd
    simp at h2
    omega
/-- The parents of a tree's vertices below x; i the first of them. -/
def plT : Nat → Int → Tr → List Int
  | _, _, lf => []
  | i, x, nd a b => x :: (plT (i + 1) (i : Int) a ++ plT (i + 1 + a.nodes) x b)
theorem plOf_tree (t : Tr) : ∀ (i : Nat) (s : List Nat) (r : List UInt8), plOf i s (t.path ++ r) = plT i (top s) t ++ plOf (i + t.nodes) s r := by
  induction t with
  | lf => intro i s r; simp [Tr.path, plT, nodes]
  | nd a b ha hb =>
    intro i s r
    simp only [Tr.path, List.cons_append, List.append_assoc, plOf, if_pos]
    rw [ha]
    simp only [plOf, if_neg (show ¬ (100 : UInt8) = 117 by decide), List.tail_cons]
    rw [hb]
    simp only [plT, nodes, top, List.cons_append, List.append_assoc]
    rw [show i + 1 + a.nodes + b.nodes = i + (a.nodes + b.nodes + 1) by omega]
theorem planeOf_tree (t : Tr) : planeOf t.path = -1 :: plT 1 0 t := by
  have := plOf_tree t 1 [0] []
  rw [List.append_nil] at this
  unfold planeOf
  rw [this]
  simp [plOf, top]
theorem plT_range (t : Tr) : ∀ (i : Nat) (x : Int), ∀ y ∈ plT i x t, y = x ∨ ((i : Int) ≤ y ∧ y < (i : Int) + t.nodes) := by
  induction t with
  | lf => intro i x y hy; cases hy
  | nd a b ha hb =>
    intro i x y hy
    simp only [plT, List.mem_cons, List.mem_append] at hy
    simp only [nodes]
    rcases hy with rfl | hy | hy
    · exact .inl rfl
    · rcases ha _ _ y hy with rfl | ⟨h1, h2⟩
      · exact .inr ⟨by omega, by omega⟩
      · exact .inr ⟨by omega, by omega⟩
    · rcases hb _ _ y hy with rfl | ⟨h1, h2⟩
      · exact .inl rfl
      · exact .inr ⟨by omega, by omega⟩
/-- How many of the n numbers from i on do not stand in a list. -/
def cnt (i n : Nat) (r : List Int) : Nat := ((List.range' i n).filter fun v : Nat => decide (¬ (v : Int) ∈ r)).length
theorem cnt_congr (i n : Nat) (r r' : List Int) (h : ∀ v : Nat, i ≤ v → v < i + n → ((v : Int) ∈ r ↔ (v : Int) ∈ r')) : cnt i n r = cnt i n r' := by
  unfold cnt
  congr 1
  apply List.filter_congr
  intro v hv
  have hv' := List.mem_range'_1.1 hv
  rw [decide_eq_decide]
  exact not_congr (h v hv'.1 hv'.2)
theorem cnt_split (i m n : Nat) (r : List Int) : cnt i (m + n) r = cnt i m r + cnt (i + m) n r := by
  unfold cnt
  rw [← List.range'_append_1, List.filter_append, List.length_append]
theorem cnt_one (i : Nat) (r : List Int) : cnt i 1 r = if (i : Int) ∈ r then 0 else 1 := by
  unfold cnt
  by_cases h : (i : Int) ∈ r <;> simp [h]
theorem mem_plT_self (t : Tr) (i : Nat) (x : Int) : x ∈ plT i x t ↔ t.nodes ≠ 0 := by
  cases t with
  | lf => simp [plT, nodes]
  | nd a b => simp [plT, nodes]
theorem cnt_tree (t : Tr) : ∀ (i : Nat) (x : Int), x < (i : Int) → cnt i t.nodes (plT i x t) = pkT t := by
  induction t with
  | lf => intro i x _; simp [cnt, nodes, pkT]
  | nd a b ha hb =>
    intro i x hx
    have e : (nd a b).nodes = 1 + (a.nodes + b.nodes) := by simp only [nodes]; omega
    rw [e, cnt_split, cnt_split, cnt_one]
    have h1 : cnt (i + 1) a.nodes (plT i x (nd a b)) = cnt (i + 1) a.nodes (plT (i + 1) (i : Int) a) := by
      apply cnt_congr
      intro v hv1 hv2
      simp only [plT, List.mem_cons, List.mem_append]
      constructor
      · rintro (h | h | h)
        · omega
        · exact h
        · rcases plT_range _ _ _ _ h with h | ⟨h, h'⟩ <;> omega
      · intro h; exact .inr (.inl h)
    have h2 : cnt (i + 1 + a.nodes) b.nodes (plT i x (nd a b)) = cnt (i + 1 + a.nodes) b.nodes (plT (i + 1 + a.nodes) x b) := by
      apply cnt_congr
      intro v hv1 hv2
      simp only [plT, List.mem_cons, List.mem_append]
      constructor
      · rintro (h | h | h)
        · omega
        · rcases plT_range _ _ _ _ h with h | ⟨h, h'⟩ <;> omega
        · exact h
      · intro h; exact .inr (.inr h)
    have h3 : (i : Int) ∈ plT i x (nd a b) ↔ a.nodes ≠ 0 := by
      rw [← mem_plT_self a (i + 1) (i : Int)]
      simp only [plT, List.mem_cons, List.mem_append]
      constructor
      · rintro (h | h | h)
        · omega
        · exact h
        · rcases plT_range _ _ _ _ h with h | ⟨h, h'⟩ <;> omega
      · intro h; exact .inr (.inl h)
    rw [h1, h2, ha _ _ (by omega), hb _ _ (by omega)]
    by_cases h : a.nodes = 0
    · rw [if_neg (by rw [h3]; simp [h])]
      cases a with
      | lf => simp only [pkT]; omega
      | nd c d => simp [nodes] at h
    · rw [if_pos (h3.2 h), pk_nd _ _ h]; omega
theorem chGo_nil (v : Int) : ∀ (r : List Int) (i : Nat), chGo v i r = [] ↔ ¬ v ∈ r := by
  intro r
  induction r with
  | nil => intro i; simp [chGo]
  | cons x r ih =>
    intro i
    simp only [chGo]
    split
    · rename_i h; simp [h]
    · rename_i h; rw [ih, List.mem_cons]; constructor
      · intro hn hc; rcases hc with hc | hc
        · exact h hc.symm
        · exact hn hc
      · intro hn hc; exact hn (.inr hc)
theorem leaf_cnt (p : List Int) (hp : plane p = true) (k : Nat) : leafC p k = cnt 0 k (p.drop 1) := by
  unfold leafC cnt
  rw [List.range_eq_range']
  congr 1
  apply List.filter_congr
  intro v _
  rw [hp, Bool.true_and, chV_yes hp (by omega), Bool.eq_iff_iff, List.isEmpty_iff, chGo_nil, decide_eq_true_eq]
theorem leaves_tree (t : Tr) (hn : t.nodes ≤ 8) (h0 : t.nodes ≠ 0) : leafV (planeOf t.path) = peaksV t.path := by
  have hd := path_dyck t hn
  rw [peaksV_tree t hn]
  unfold leafV
  rw [leaf_cnt _ (plane_planeOf hd), planeOf_tree]
  have hl : (-1 :: plT 1 0 t).length = 1 + t.nodes := by
    have := len_planeOf (dyck_path hd)
    rw [planeOf_tree, len_path] at this
    omega
  rw [hl, List.drop_one, List.tail_cons, cnt_split, cnt_one, if_pos (show ((0 : Nat) : Int) ∈ plT 1 0 t from (mem_plT_self t 1 0).2 h0), Nat.zero_add, Nat.zero_add, cnt_tree t 1 0 (by omega)]
theorem mir_twice {l : List UInt8} (hd : dyck l = true) : mirV (planeOf l) = planeOf (rev l) ∧ plane (planeOf (rev l)) = true ∧ mirV (planeOf (rev l)) = planeOf l := by
  have hr := dyck_rev hd
  refine ⟨?_, plane_planeOf hr, ?_⟩
  · rw [mirV_yes (plane_planeOf hd), pathOf_planeOf hd]
  · rw [mirV_yes (plane_planeOf hr), pathOf_planeOf hr, rev_rev_dyck hd]
end Go.Proofs.Ytndehfkamfmmeaa
