/-
  Binary trees in plain Lean: their texts, paths, mirrors and levels of leaves; a text, a path or a list of levels says of at most one tree.
-/
import Derived.Test.YthbfockobnfomaaDyckP
namespace Go.Proofs.Ythbfockobnfomaa
inductive Tr where
  | lf : Tr
  | nd : Tr → Tr → Tr
namespace Tr
/-- The text: 46 a full stop, 40 and 41 the parentheses. -/
def txt : Tr → List UInt8
  | lf => [46]
  | nd l r => 40 :: (l.txt ++ (r.txt ++ [41]))
def nodes : Tr → Nat
  | lf => 0
  | nd l r => l.nodes + r.nodes + 1
def path : Tr → List UInt8
  | lf => []
  | nd l r => 117 :: (l.path ++ 100 :: r.path)
def mir : Tr → Tr
  | lf => lf
  | nd l r => nd r.mir l.mir
def lev : Nat → Tr → List Int
  | d, lf => [(d : Int)]
  | d, nd l r => l.lev (d + 1) ++ r.lev (d + 1)
end Tr
open Tr
theorem len_txt (t : Tr) : t.txt.length = 3 * t.nodes + 1 := by
  induction t with
  | lf => rfl
  | nd l r hl hr => simp only [txt, nodes, List.length_cons, List.length_append, hl, hr, List.length_nil]; omega
theorem len_path (t : Tr) : t.path.length = 2 * t.nodes := by
  induction t with
  | lf => rfl
  | nd l r hl hr => simp only [path, nodes, List.length_cons, List.length_append, hl, hr]; omega
theorem len_lev (t : Tr) : ∀ d, (t.lev d).length = t.nodes + 1 := by
  induction t with
  | lf => intro d; rfl
  | nd l r hl hr => intro d; simp only [lev, nodes, List.length_append, hl, hr]; omega
theorem nodes_mir (t : Tr) : t.mir.nodes = t.nodes := by
  induction t with
  | lf => rfl
  | nd l r hl hr => simp only [mir, nodes, hl, hr]; omega
theorem mir_mir (t : Tr) : t.mir.mir = t := by
  induction t with
  | lf => rfl
  | nd l r hl hr => simp only [mir, hl, hr]
theorem txt_head (t : Tr) : ∃ c r, t.txt = c :: r ∧ (c = 46 ∨ c = 40) := by
  cases t with
  | lf => exact ⟨_, _, rfl, .inl rfl⟩
  | nd l r => exact ⟨_, _, rfl, .inr rfl⟩
/-- What follows a text is fixed by the text. -/
theorem txt_inj : ∀ (t t' : Tr) (a b : List UInt8), t.txt ++ a = t'.txt ++ b → t = t' ∧ a = b := by
  intro t
  induction t with
  | lf =>
    intro t' a b h
    cases t' with
    | lf => simp [txt] at h; exact ⟨rfl, h⟩
    | nd l r => simp [txt] at h
  | nd l r hl hr =>
    intro t' a b h
    cases t' with
    | lf => simp [txt] at h
    | nd l' r' =>
      simp only [txt, List.cons_append, List.append_assoc, List.cons.injEq, true_and] at h
      obtain ⟨rfl, h2⟩ := hl _ _ _ h
      obtain ⟨rfl, h3⟩ := hr _ _ _ h2
      simp at h3
      exact ⟨rfl, h3⟩
/-- The word reads as a tree and what follows it. -/
def Reads (l : List UInt8) (t : Tr) (r : List UInt8) : Prop := l = t.txt ++ r
theorem reads_nil (t : Tr) (r : List UInt8) : ¬ Reads [] t r := by
  intro h
  have := congrArg List.length h
  simp [len_txt] at this; omega
theorem reads_len {l r : List UInt8} {t : Tr} (h : Reads l t r) : l.length = 3 * t.nodes + 1 + r.length := by
  have := congrArg List.length h
  simp [len_txt] at this; omega
theorem reads_other {c : UInt8} {l r : List UInt8} {t : Tr} (h1 : c ≠ 46) (h2 : c ≠ 40) : ¬ Reads (c :: l) t r := by
  intro h
  obtain ⟨d, q, hq, hd⟩ := txt_head t
  unfold Reads at h
  rw [hq, List.cons_append] at h
  injection h with h3 _
  subst h3
  rcases hd with rfl | rfl
  · exact h1 rfl
  · exact h2 rfl
theorem reads_leaf (l : List UInt8) : Reads (46 :: l) lf l := rfl
theorem reads_dot {l r : List UInt8} {t : Tr} (h : Reads (46 :: l) t r) : t = lf ∧ r = l := by
  have := txt_inj t lf r l h.symm
  exact this
theorem reads_node {l r1 r2 : List UInt8} {a b : Tr} (h1 : Reads l a r1) (h2 : Reads r1 b (41 :: r2)) : Reads (40 :: l) (nd a b) r2 := by
  unfold Reads at *
  subst h1
  rw [h2]
  simp [txt]
theorem reads_open {l r : List UInt8} {t : Tr} (h : Reads (40 :: l) t r) : ∃ a b r1, t = nd a b ∧ Reads l a r1 ∧ Reads r1 b (41 :: r) := by
  cases t with
  | lf => simp [Reads, txt] at h
  | nd a b =>
    unfold Reads at h
    simp only [txt, List.cons_append, List.append_assoc, List.cons.injEq, true_and] at h
    exact ⟨a, b, _, rfl, h, rfl⟩
theorem reads_uniq {l r r' : List UInt8} {t t' : Tr} (h : Reads l t r) (h' : Reads l t' r') : t = t' ∧ r = r' := txt_inj t t' r r' (h.symm.trans h')

/-- Paths. -/
theorem hgo_tree (t : Tr) : ∀ (h : Nat) (r : List UInt8), hgo h (t.path ++ r) = hgo h r := by
  induction t with
  | lf => intro h r; rfl
  | nd a b ha hb =>
    intro h r
    simp only [path, List.cons_append, List.append_assoc]
    rw [hgo_u, ha, hgo_d, hb]
theorem path_isPath (t : Tr) : hgo 0 t.path = some 0 := by
  have := hgo_tree t 0 []
  rw [List.append_nil] at this
  rw [this]; rfl
theorem path_dyck (t : Tr) (h : t.nodes ≤ 8) : dyck t.path = true := by
  simp only [dyck, isPath, path_isPath, Bool.and_eq_true, decide_eq_true_eq, beq_self_eq_true, and_true, len_path]; omega
/-- A word that comes from height h down to 0 and further by what follows splits at each step down. -/
theorem path_split : ∀ (n : Nat) (l : List UInt8) (h : Nat), l.length ≤ n → hgo (h + 1) l = some 0 → ∃ (t : Tr) (r : List UInt8), l = t.path ++ 100 :: r ∧ hgo h r = some 0 := by
  intro n
  induction n with
  | zero =>
    intro l h hl hg
    have : l = [] := List.eq_nil_of_length_eq_zero (by omega)
    subst this; simp [hgo] at hg
  | succ n ih =>
    intro l h hl hg
    match l with
    | [] => simp [hgo] at hg
    | c :: q =>
      simp only [List.length_cons] at hl
      rcases hgo_letters hg c (by simp) with rfl | rfl
      · rw [hgo_u] at hg
        obtain ⟨a, r, rfl, hr⟩ := ih q (h + 1) (by omega) hg
        have hrl : r.length ≤ n := by simp at hl; omega
        obtain ⟨b, r2, rfl, hr2⟩ := ih r h hrl hr
        exact ⟨nd a b, r2, by simp [path], hr2⟩
      · rw [hgo_d] at hg
        exact ⟨lf, q, rfl, hg⟩
/-- Each path is the path of a tree. -/
theorem path_tree : ∀ (n : Nat) (l : List UInt8), l.length ≤ n → hgo 0 l = some 0 → ∃ t : Tr, t.path = l := by
  intro n
  induction n with
  | zero =>
    intro l hl _
    have : l = [] := List.eq_nil_of_length_eq_zero (by omega)
    subst this; exact ⟨lf, rfl⟩
  | succ n ih =>
    intro l hl hg
    match l with
    | [] => exact ⟨lf, rfl⟩
    | c :: q =>
      simp only [List.length_cons] at hl
      rcases hgo_letters hg c (by simp) with rfl | rfl
      · rw [hgo_u] at hg
        obtain ⟨a, r, rfl, hr⟩ := path_split q.length q 0 (Nat.le_refl _) hg
        obtain ⟨b, rfl⟩ := ih r (by simp at hl; omega) hr
        exact ⟨nd a b, by simp [path]⟩
      · rw [hgo_d0] at hg; cases hg
theorem tree_of_dyck {l : List UInt8} (h : dyck l = true) : ∃ t : Tr, t.path = l ∧ t.nodes ≤ 8 := by
  obtain ⟨t, rfl⟩ := path_tree l.length l (Nat.le_refl _) (dyck_path h)
  have := dyck_len h
  rw [len_path] at this
  exact ⟨t, rfl, by omega⟩
theorem path_inj' : ∀ (t t' : Tr) (a b : List UInt8), (∀ c q, a = c :: q → c = 100) → (∀ c q, b = c :: q → c = 100) → t.path ++ a = t'.path ++ b → t = t' ∧ a = b := by
  intro t
  induction t with
  | lf =>
    intro t' a b ha hb h
    cases t' with
    | lf => exact ⟨rfl, h⟩
    | nd l r =>
      have := ha _ _ (by simpa [path] using h)
      exact absurd this (by decide)
  | nd l r hl hr =>
    intro t' a b ha hb h
    cases t' with
    | lf =>
      have := hb _ _ (by simpa [path] using h.symm)
      exact absurd this (by decide)
    | nd l' r' =>
      simp only [path, List.cons_append, List.append_assoc, List.cons.injEq, true_and] at h
      obtain ⟨rfl, h2⟩ := hl _ _ _ (by intro c q hc; injection hc with h1 _; exact h1.symm) (by intro c q hc; injection hc with h1 _; exact h1.symm) h
      simp only [List.cons.injEq, true_and] at h2
      obtain ⟨rfl, h3⟩ := hr _ _ _ ha hb h2
      exact ⟨rfl, h3⟩
theorem path_inj {t t' : Tr} (h : t.path = t'.path) : t = t' :=
  (path_inj' t t' [] [] (by intro c q h; cases h) (by intro c q h; cases h) (by rw [List.append_nil, List.append_nil]; exact h)).1

/-- Levels. -/
theorem lev_lo (t : Tr) : ∀ d, ∀ x ∈ t.lev d, (d : Int) ≤ x := by
  induction t with
  | lf => intro d x hx; simp [lev] at hx; omega
  | nd l r hl hr =>
    intro d x hx
    rcases List.mem_append.1 hx with h | h
    · have := hl _ x h; omega
    · have := hr _ x h; omega
theorem lev_hi (t : Tr) : ∀ d, ∀ x ∈ t.lev d, x ≤ (d : Int) + t.nodes := by
  induction t with
  | lf => intro d x hx; simp [lev] at hx; omega
  | nd l r hl hr =>
    intro d x hx
    simp only [nodes]
    rcases List.mem_append.1 hx with h | h
    · have := hl _ x h; omega
    · have := hr _ x h; omega
theorem lev_ne (t : Tr) (d : Nat) : t.lev d ≠ [] := by
  intro h
  have := len_lev t d
  rw [h] at this; simp at this
theorem lev_head_nd (l r : Tr) (d : Nat) : ∃ x q, (nd l r).lev d = x :: q ∧ (d : Int) < x := by
  cases h : (nd l r).lev d with
  | nil => exact absurd h (lev_ne _ _)
  | cons x q =>
    refine ⟨x, q, rfl, ?_⟩
    have hx : x ∈ l.lev (d + 1) ++ r.lev (d + 1) := by
      show x ∈ (nd l r).lev d
      rw [h]; simp
    rcases List.mem_append.1 hx with h | h
    · have := lev_lo l _ x h; omega
    · have := lev_lo r _ x h; omega
theorem lev_inj : ∀ (t t' : Tr) (d : Nat) (a b : List Int), t.lev d ++ a = t'.lev d ++ b → t = t' ∧ a = b := by
  intro t
  induction t with
  | lf =>
    intro t' d a b h
    cases t' with
    | lf => simp [lev] at h; exact ⟨rfl, h⟩
    | nd l r =>
      obtain ⟨x, q, hx, hlt⟩ := lev_head_nd l r d
      rw [hx] at h; simp [lev] at h; omega
  | nd l r hl hr =>
    intro t' d a b h
    cases t' with
    | lf =>
      obtain ⟨x, q, hx, hlt⟩ := lev_head_nd l r d
      rw [hx] at h; simp [lev] at h; omega
    | nd l' r' =>
      simp only [lev, List.append_assoc] at h
      obtain ⟨rfl, h2⟩ := hl _ _ _ _ h
      obtain ⟨rfl, h3⟩ := hr _ _ _ _ h2
      exact ⟨rfl, h3⟩
/-- The list reads as the levels of a tree whose root stands at level d, and what follows. -/
def LReads (d : Nat) (l : List Int) (t : Tr) (r : List Int) : Prop := l = t.lev d ++ r
theorem lreads_uniq {d : Nat} {l r r' : List Int} {t t' : Tr} (h : LReads d l t r) (h' : LReads d l t' r') : t = t' ∧ r = r' := lev_inj t t' d r r' (h.symm.trans h')
theorem lreads_nil (d : Nat) (t : Tr) (r : List Int) : ¬ LReads d [] t r := by
  intro h
  have := congrArg List.length h
  simp [len_lev] at this; omega
theorem lreads_low {d : Nat} {x : Int} {q r : List Int} {t : Tr} (hx : x < d) : ¬ LReads d (x :: q) t r := by
  intro h
  cases ht : t.lev d with
  | nil => exact lev_ne _ _ ht
  | cons y z =>
    unfold LReads at h
    rw [ht, List.cons_append] at h
    injection h with h1 _
    have := lev_lo t d y (by rw [ht]; simp)
    omega
theorem lreads_leaf (d : Nat) (q : List Int) : LReads d ((d : Int) :: q) lf q := rfl
theorem lreads_node {d : Nat} {l r1 r2 : List Int} {a b : Tr} (h1 : LReads (d + 1) l a r1) (h2 : LReads (d + 1) r1 b r2) : LReads d l (nd a b) r2 := by
  unfold LReads at *
  rw [h1, h2]; simp [lev]
theorem lreads_open {d : Nat} {x : Int} {q r : List Int} {t : Tr} (hx : (d : Int) < x) (h : LReads d (x :: q) t r) : ∃ a b r1, t = nd a b ∧ LReads (d + 1) (x :: q) a r1 ∧ LReads (d + 1) r1 b r := by
  cases t with
  | lf => simp [LReads, lev] at h; omega
  | nd a b =>
    unfold LReads at h
    simp only [lev, List.append_assoc] at h
    exact ⟨a, b, _, rfl, h, rfl⟩
end Go.Proofs.Ythbfockobnfomaa
