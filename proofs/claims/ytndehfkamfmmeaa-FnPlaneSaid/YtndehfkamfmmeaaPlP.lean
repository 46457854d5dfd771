/-
  Plane trees in plain Lean: parents in preorder, read with the chain of ancestors of the last vertex; paths and levels out of them.
-/
import Derived.Test.YtndehfkamfmmeaaDyckP
namespace Go.Proofs.Ytndehfkamfmmeaa
/-- The head of a chain as a number; -1 where there is none. -/
def top : List Nat → Int
  | [] => -1
  | b :: _ => (b : Int)
/-- A chain: each vertex is followed by its parent, up to the root. -/
def Chain (p : List Int) : List Nat → Prop
  | [] => True
  | a :: r => p.getD a 0 = top r ∧ top r < (a : Int) ∧ Chain p r
/-- The part of a chain from x on. -/
def popTo (x : Int) : List Nat → List Nat
  | [] => []
  | a :: r => if (a : Int) = x then a :: r else popTo x r
/-- How many stand ahead of x. -/
def pops (x : Int) : List Nat → Nat
  | [] => 0
  | a :: r => if (a : Int) = x then 0 else pops x r + 1
/-- The rest of the parents is fine; i: the next vertex, s: the last one with its ancestors. -/
def plGo : Nat → List Nat → List Int → Bool
  | _, _, [] => true
  | i, s, x :: r => match popTo x s with
    | [] => false
    | a :: t => plGo (i + 1) (i :: a :: t) r
def plRow : List Int → Bool
  | [] => false
  | x :: r => decide (x = -1) && plGo 1 [0] r
def plane (p : List Int) : Bool := decide (p.length ≤ 9) && plRow p

theorem plGo_cons (i : Nat) (s : List Nat) (x : Int) (r : List Int) : plGo i s (x :: r) = (!(popTo x s).isEmpty && plGo (i + 1) (i :: popTo x s) r) := by
  simp only [plGo]
  cases popTo x s <;> simp
theorem top_pop {x : Int} {s : List Nat} (h : popTo x s ≠ []) : top (popTo x s) = x := by
  induction s with
  | nil => simp [popTo] at h
  | cons a r ih =>
    simp only [popTo] at h ⊢
    split
    · rename_i hx; exact hx
    · rename_i hx; rw [if_neg hx] at h; exact ih h
theorem pop_cons_ne {x : Int} {a : Nat} {r : List Nat} (h : (a : Int) ≠ x) : popTo x (a :: r) = popTo x r := by simp [popTo, h]
theorem pop_cons_eq {x : Int} {a : Nat} {r : List Nat} (h : (a : Int) = x) : popTo x (a :: r) = a :: r := by simp [popTo, h]
theorem pop_len (x : Int) (s : List Nat) : (popTo x s).length + pops x s = s.length := by
  induction s with
  | nil => rfl
  | cons a r ih =>
    simp only [popTo, pops]
    split
    · simp
    · simp only [List.length_cons]; omega
theorem chain_pop {p : List Int} {x : Int} {s : List Nat} (h : Chain p s) : Chain p (popTo x s) := by
  induction s with
  | nil => exact h
  | cons a r ih =>
    simp only [popTo]
    split
    · exact h
    · exact ih h.2.2
theorem top_cons (a : Nat) (r : List Nat) : top (a :: r) = (a : Int) := rfl
theorem top_lo (s : List Nat) : -1 ≤ top s := by cases s with
  | nil => exact Int.le_refl _
  | cons a r => rw [top_cons]; omega
/-- In a chain all stand below the head. -/
theorem chain_lt {p : List Int} {s : List Nat} (h : Chain p s) : ∀ a ∈ s, (a : Int) ≤ top s := by
  induction s with
  | nil => intro a ha; cases ha
  | cons b r ih =>
    intro a ha
    rcases List.mem_cons.1 ha with rfl | ha
    · exact Int.le_refl _
    · have := ih h.2.2 a ha
      have h2 : top r < (b : Int) := h.2.1
      rw [top_cons]; omega
theorem pop_sub {x : Int} {s : List Nat} : ∀ a ∈ popTo x s, a ∈ s := by
  induction s with
  | nil => intro a ha; cases ha
  | cons b r ih =>
    intro a ha
    simp only [popTo] at ha
    split at ha
    · exact ha
    · exact List.mem_cons_of_mem _ (ih a ha)
theorem pop_top_le {p : List Int} {x : Int} {s : List Nat} (h : Chain p s) : top (popTo x s) ≤ top s := by
  cases hp : popTo x s with
  | nil => have := top_lo s; simpa [top] using this
  | cons a r =>
    have := chain_lt h a (pop_sub (x := x) a (by rw [hp]; simp))
    simpa [top] using this
theorem chain_push {p : List Int} {i : Nat} {x : Int} {s : List Nat} (h : Chain p s) (ht : top s < (i : Int)) (hx : p.getD i 0 = x) (hne : popTo x s ≠ []) : Chain p (i :: popTo x s) := by
  refine ⟨by rw [hx, top_pop hne], ?_, chain_pop h⟩
  have := pop_top_le (x := x) h; omega
theorem pop_empty {x : Int} {s : List Nat} : popTo x s = [] ↔ ∀ a ∈ s, (a : Int) ≠ x := by
  induction s with
  | nil => simp [popTo]
  | cons a r ih =>
    by_cases h : (a : Int) = x
    · rw [pop_cons_eq h]; simp [h]
    · rw [pop_cons_ne h, ih]; simp [h]
theorem chain_len {p : List Int} {s : List Nat} (h : Chain p s) : (s.length : Int) ≤ top s + 1 := by
  induction s with
  | nil => simp [top]
  | cons a r ih => have := ih h.2.2; have h2 := h.2.1; simp only [List.length_cons, top]; omega

/-- The levels of the rest of the vertices. -/
def lvGo : Nat → List Nat → List Int → List Int
  | _, _, [] => []
  | i, s, x :: r => ((popTo x s).length : Int) :: lvGo (i + 1) (i :: popTo x s) r
def levels (p : List Int) : List Int := if plane p = true then 0 :: lvGo 1 [0] (p.drop 1) else []
theorem len_lvGo : ∀ (r : List Int) (i : Nat) (s : List Nat), (lvGo i s r).length = r.length := by
  intro r
  induction r with
  | nil => intro i s; rfl
  | cons x r ih => intro i s; simp [lvGo, ih]
/-- What has been written down so far gives the levels of a chain. -/
def LvOk (o : List Int) : List Nat → Prop
  | [] => True
  | a :: r => a < o.length ∧ o.getD a 0 = (r.length : Int) ∧ LvOk o r
theorem LvOk.more {o : List Int} {s : List Nat} (h : LvOk o s) (y : Int) : LvOk (o ++ [y]) s := by
  induction s with
  | nil => trivial
  | cons a r ih =>
    refine ⟨by have := h.1; simp; omega, ?_, ih h.2.2⟩
    rw [← h.2.1]; simp [List.getD, List.getElem?_append_left h.1]
theorem LvOk.pop {o : List Int} {x : Int} {s : List Nat} (h : LvOk o s) : LvOk o (popTo x s) := by
  induction s with
  | nil => exact h
  | cons a r ih =>
    simp only [popTo]
    split
    · exact h
    · exact ih h.2.2
theorem LvOk.push {o : List Int} {i : Nat} {s : List Nat} (h : LvOk o s) (hi : o.length = i) : LvOk (o ++ [(s.length : Int)]) (i :: s) := by
  refine ⟨by simp; omega, ?_, h.more _⟩
  simp [List.getD, ← hi]

/-- The path of the rest of the vertices. -/
def poGo : Nat → List Nat → List Int → List UInt8
  | _, s, [] => List.replicate (s.length - 1) 100
  | i, s, x :: r => List.replicate (pops x s) 100 ++ 117 :: poGo (i + 1) (i :: popTo x s) r
def pathOf (p : List Int) : List UInt8 := poGo 1 [0] (p.drop 1)
/-- The parents of the vertices that the letters open. -/
def plOf : Nat → List Nat → List UInt8 → List Int
  | _, _, [] => []
  | i, s, c :: r => if c = 117 then top s :: plOf (i + 1) (i :: s) r else plOf i s.tail r
def planeOf (l : List UInt8) : List Int := -1 :: plOf 1 [0] l

/-- A chain that only falls. -/
def Falls : List Nat → Prop
  | [] => True
  | a :: r => top r < (a : Int) ∧ Falls r
theorem Chain.falls {p : List Int} {s : List Nat} (h : Chain p s) : Falls s := by
  induction s with
  | nil => trivial
  | cons a r ih => exact ⟨h.2.1, ih h.2.2⟩
theorem Falls.lt {s : List Nat} (h : Falls s) : ∀ a ∈ s, (a : Int) ≤ top s := by
  induction s with
  | nil => intro a ha; cases ha
  | cons b r ih =>
    intro a ha
    rcases List.mem_cons.1 ha with rfl | ha
    · exact Int.le_refl _
    · have := ih h.2 a ha
      have h2 : top r < (b : Int) := h.1
      rw [top_cons]; omega
theorem Falls.drop {s : List Nat} (h : Falls s) (k : Nat) : Falls (s.drop k) := by
  induction k generalizing s with
  | zero => exact h
  | succ k ih => cases s with
    | nil => trivial
    | cons a r => exact ih h.2
/-- Popping to the head of what is left behind k goes just there. -/
theorem pop_drop {s : List Nat} (h : Falls s) (k : Nat) (hk : k < s.length) : popTo (top (s.drop k)) s = s.drop k ∧ pops (top (s.drop k)) s = k := by
  induction k generalizing s with
  | zero =>
    cases s with
    | nil => cases hk
    | cons a r => simp [popTo, pops, top]
  | succ k ih =>
    cases s with
    | nil => cases hk
    | cons a r =>
      have hk' : k < r.length := by simpa using hk
      obtain ⟨h1, h2⟩ := ih h.2 hk'
      have hd : (a :: r).drop (k + 1) = r.drop k := rfl
      rw [hd]
      have hlt : top (r.drop k) < (a : Int) := by
        cases hx : r.drop k with
        | nil => have := h.1; simp [top]; omega
        | cons b q =>
          have hb : b ∈ r := List.mem_of_mem_drop (i := k) (by rw [hx]; simp)
          have := h.2.lt b hb
          have := h.1
          simp only [top] at *; omega
      have hne : (a : Int) ≠ top (r.drop k) := by omega
      refine ⟨by rw [pop_cons_ne hne]; exact h1, ?_⟩
      simp only [pops]
      rw [if_neg hne, h2]
theorem Falls.push {s : List Nat} (h : Falls s) {i : Nat} (hi : top s < (i : Int)) : Falls (i :: s) := ⟨hi, h⟩
/-- Reading the parents of a path gives the path back. -/
theorem po_pl : ∀ (l : List UInt8) (i : Nat) (s : List Nat) (k : Nat), Falls s → top s < (i : Int) → k < s.length → hgo (s.length - 1 - k) l = some 0 →
    poGo i s (plOf i (s.drop k) l) = List.replicate k 100 ++ l ∧ plGo i s (plOf i (s.drop k) l) = true := by
  intro l
  induction l with
  | nil =>
    intro i s k hf hi hk hg
    have h0 : s.length - 1 - k = 0 := by simpa [hgo] using hg
    refine ⟨?_, rfl⟩
    simp only [plOf, poGo, List.append_nil]
    congr 1; omega
  | cons c r ih =>
    intro i s k hf hi hk hg
    rcases hgo_letters hg c (by simp) with rfl | rfl
    · rw [hgo_u] at hg
      obtain ⟨h1, h2⟩ := pop_drop hf k hk
      have hfd := hf.drop k
      have htd : top (s.drop k) < (i : Int) := by
        cases hx : s.drop k with
        | nil => simp [top]; omega
        | cons b q =>
          have hb : b ∈ s := List.mem_of_mem_drop (i := k) (by rw [hx]; simp)
          have := hf.lt b hb
          simp only [top]; omega
      have hi' : top (i :: s.drop k) < ((i + 1 : Nat) : Int) := by simp only [top]; omega
      have hlen : (i :: s.drop k).length - 1 - 0 = s.length - 1 - k + 1 := by simp; omega
      obtain ⟨h3, h4⟩ := ih (i + 1) (i :: s.drop k) 0 (hfd.push htd) hi' (by simp) (by rw [hlen]; exact hg)
      simp only [plOf, if_pos]
      rw [poGo.eq_2, plGo_cons, h1, h2]
      rw [List.drop_zero] at h3 h4
      rw [h3, h4]
      refine ⟨by simp, ?_⟩
      have : s.drop k ≠ [] := by intro h; have := congrArg List.length h; simp at this; omega
      cases hx : s.drop k with
      | nil => exact absurd hx this
      | cons b q => rfl
    · have e : plOf i (s.drop k) (100 :: r) = plOf i (s.drop (k + 1)) r := by
        simp only [plOf, if_neg (show ¬ (100 : UInt8) = 117 by decide), List.tail_drop]
      cases hh : s.length - 1 - k with
      | zero => rw [hh, hgo_d0] at hg; cases hg
      | succ m =>
        rw [hh, hgo_d] at hg
        obtain ⟨h1, h2⟩ := ih i s (k + 1) hf hi (by omega) (by rw [show s.length - 1 - (k + 1) = m by omega]; exact hg)
        rw [e, h1, h2]
        refine ⟨?_, rfl⟩
        rw [List.replicate_succ']; simp
theorem len_plOf : ∀ (l : List UInt8) (i : Nat) (s : List Nat), (plOf i s l).length = (l.filter (· = 117)).length := by
  intro l
  induction l with
  | nil => intro i s; rfl
  | cons c r ih =>
    intro i s
    by_cases h : c = 117
    · subst h; simp only [plOf, if_pos, List.length_cons, ih]; simp
    · simp only [plOf, if_neg h, ih]; simp [h]
theorem ups_half : ∀ (l : List UInt8) (h : Nat), hgo h l = some 0 → 2 * (l.filter (· = 117)).length + h = l.length := by
  intro l
  induction l with
  | nil => intro h hg; simp [hgo] at hg; simp [hg]
  | cons c r ih =>
    intro h hg
    rcases hgo_letters hg c (by simp) with rfl | rfl
    · rw [hgo_u] at hg; have := ih _ hg; simp; omega
    · cases h with
      | zero => rw [hgo_d0] at hg; cases hg
      | succ h => rw [hgo_d] at hg; have := ih _ hg; simp; omega
theorem len_planeOf {l : List UInt8} (hg : hgo 0 l = some 0) : 2 * (planeOf l).length = l.length + 2 := by
  have := ups_half l 0 hg
  simp only [planeOf, List.length_cons, len_plOf]; omega
theorem plane_planeOf {l : List UInt8} (hd : dyck l = true) : plane (planeOf l) = true := by
  have h := (po_pl l 1 [0] 0 ⟨by simp [top], trivial⟩ (by simp [top]) (by simp) (dyck_path hd)).2
  have hl := len_planeOf (dyck_path hd)
  have := dyck_len hd
  simp only [plane, Bool.and_eq_true, decide_eq_true_eq]
  refine ⟨by omega, ?_⟩
  rw [List.drop_zero] at h
  simp [planeOf, plRow, h]
theorem pathOf_planeOf {l : List UInt8} (hd : dyck l = true) : pathOf (planeOf l) = l := by
  have h := (po_pl l 1 [0] 0 ⟨by simp [top], trivial⟩ (by simp [top]) (by simp) (dyck_path hd)).1
  rw [List.drop_zero] at h
  simpa [pathOf, planeOf] using h

/-- The path of a plane tree is a path. -/
theorem po_path : ∀ (r : List Int) (i : Nat) (s : List Nat), s ≠ [] → plGo i s r = true → hgo (s.length - 1) (poGo i s r) = some 0 ∧ (poGo i s r).length = s.length - 1 + 2 * r.length := by
  have hrep : ∀ (k h : Nat) (t : List UInt8), hgo (h + k) (List.replicate k 100 ++ t) = hgo h t := by
    intro k
    induction k with
    | zero => intro h t; simp
    | succ k ih => intro h t; rw [List.replicate_succ, List.cons_append, show h + (k + 1) = (h + k) + 1 by omega, hgo_d]; exact ih h t
  intro r
  induction r with
  | nil =>
    intro i s hs _
    refine ⟨?_, by simp [poGo]⟩
    have := hrep (s.length - 1) 0 []
    rw [Nat.zero_add, List.append_nil] at this
    rw [poGo, this]; rfl
  | cons x r ih =>
    intro i s hs hp
    rw [plGo_cons, Bool.and_eq_true] at hp
    have hne : popTo x s ≠ [] := by intro h; rw [h] at hp; simp at hp
    obtain ⟨h1, h2⟩ := ih (i + 1) (i :: popTo x s) (by simp) hp.2
    have hl := pop_len x s
    have h0 : 0 < (popTo x s).length := List.length_pos_iff.2 hne
    rw [poGo.eq_2]
    refine ⟨?_, ?_⟩
    · rw [show s.length - 1 = ((popTo x s).length - 1) + pops x s by omega, hrep, hgo_u]
      rw [List.length_cons, show (popTo x s).length + 1 - 1 = (popTo x s).length - 1 + 1 by omega] at h1
      exact h1
    · simp only [List.length_append, List.length_replicate, List.length_cons, h2]; omega
theorem pathOf_dyck {p : List Int} (h : plane p = true) : dyck (pathOf p) = true := by
  simp only [plane, Bool.and_eq_true, decide_eq_true_eq] at h
  obtain ⟨hl, hr⟩ := h
  cases p with
  | nil => simp [plRow] at hr
  | cons x r =>
    simp only [plRow, Bool.and_eq_true] at hr
    obtain ⟨h1, h2⟩ := po_path r 1 [0] (by simp) hr.2
    simp only [dyck, isPath, pathOf, List.drop_one, List.tail_cons, Bool.and_eq_true, decide_eq_true_eq, beq_iff_eq]
    simp at hl h1 h2
    exact ⟨by omega, h1⟩
end Go.Proofs.Ytndehfkamfmmeaa
