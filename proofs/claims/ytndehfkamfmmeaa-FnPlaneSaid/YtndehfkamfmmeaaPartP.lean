/-
  The partner of each letter of a path, in plain Lean: heights, and a stack of the letters that still wait.
-/
import Derived.Test.YtndehfkamfmmeaaDyckP
import Derived.Test.YtndehfkamfmmeaaKit
namespace Go.Proofs.Ytndehfkamfmmeaa
open Go.RowKit
def sg (c : UInt8) : Int := if c = 117 then 1 else -1
/-- The height behind k letters. -/
def H (l : List UInt8) : Nat → Int
  | 0 => 0
  | k + 1 => H l k + sg (l.getD k 0)
theorem H_up (l : List UInt8) (k : Nat) (h : l.getD k 0 = 117) : H l (k + 1) = H l k + 1 := by show _ + sg _ = _; rw [h]; rfl
theorem H_down (l : List UInt8) (k : Nat) (h : l.getD k 0 ≠ 117) : H l (k + 1) = H l k - 1 := by show _ + sg _ = _; unfold sg; rw [if_neg h]; omega
theorem H_go (l : List UInt8) (hg : hgo 0 l = some 0) : ∀ k, k ≤ l.length → ∃ h : Nat, H l k = h ∧ hgo h (l.drop k) = some 0 := by
  intro k
  induction k with
  | zero => intro _; exact ⟨0, rfl, hg⟩
  | succ k ih =>
    intro hk
    obtain ⟨h, h1, h2⟩ := ih (by omega)
    have hd : l.drop k = l.getD k 0 :: l.drop (k + 1) := by
      have : l[k]? = some l[k] := List.getElem?_eq_getElem (by omega)
      rw [List.drop_eq_getElem_cons (by omega)]
      simp [List.getD, this]
    rw [hd] at h2
    have hor := hgo_letters h2 (l.getD k 0) (by simp)
    by_cases hu : l.getD k 0 = 117
    · rw [hu, hgo_u] at h2
      exact ⟨h + 1, by rw [H_up l k hu, h1]; rfl, h2⟩
    · have h3 := hor.resolve_left hu
      cases h with
      | zero => rw [h3, hgo_d0] at h2; cases h2
      | succ h => rw [h3, hgo_d] at h2; exact ⟨h, by rw [H_down l k hu, h1]; omega, h2⟩
theorem H_pos (l : List UInt8) (hg : hgo 0 l = some 0) (k : Nat) (hk : k ≤ l.length) : 0 ≤ H l k := by
  obtain ⟨h, h1, _⟩ := H_go l hg k hk; omega
theorem H_end (l : List UInt8) (hg : hgo 0 l = some 0) : H l l.length = 0 := by
  obtain ⟨h, h1, h2⟩ := H_go l hg l.length (Nat.le_refl _)
  rw [List.drop_length] at h2
  have : h = 0 := by simpa [hgo] using h2
  omega
/-- The letters at a and at b belong together. -/
def Pair (l : List UInt8) (a b : Nat) : Prop := a < b ∧ b < l.length ∧ H l (b + 1) = H l a ∧ ∀ k, a < k → k ≤ b → H l a < H l k
def Part (l : List UInt8) (a b : Nat) : Prop := Pair l a b ∨ Pair l b a
theorem pair_up {l : List UInt8} {a b : Nat} (h : Pair l a b) : l.getD a 0 = 117 := by
  obtain ⟨h1, _, _, h4⟩ := h
  have := h4 (a + 1) (by omega) (by omega)
  rcases Decidable.em (l.getD a 0 = 117) with hc | hc
  · exact hc
  · rw [H_down l a hc] at this; omega
theorem pair_down {l : List UInt8} {a b : Nat} (h : Pair l a b) : l.getD b 0 ≠ 117 := by
  obtain ⟨h1, _, h3, h4⟩ := h
  have := h4 b (by omega) (by omega)
  intro hc
  rw [H_up l b hc] at h3; omega
theorem pair_fwd {l : List UInt8} {a b c : Nat} (h : Pair l a b) (k : Pair l a c) : b = c := by
  obtain ⟨h1, h2, h3, h4⟩ := h
  obtain ⟨k1, k2, k3, k4⟩ := k
  rcases Nat.lt_trichotomy b c with hlt | he | hgt
  · have := k4 (b + 1) (by omega) (by omega); omega
  · exact he
  · have := h4 (c + 1) (by omega) (by omega); omega
theorem pair_back {l : List UInt8} {a b c : Nat} (h : Pair l b a) (k : Pair l c a) : b = c := by
  obtain ⟨h1, h2, h3, h4⟩ := h
  obtain ⟨k1, k2, k3, k4⟩ := k
  rcases Nat.lt_trichotomy b c with hlt | he | hgt
  · have := h4 c (by omega) (by omega); omega
  · exact he
  · have := k4 b (by omega) (by omega); omega
theorem part_one {l : List UInt8} {a b c : Nat} (h : Part l a b) (k : Part l a c) : b = c := by
  rcases h with h | h <;> rcases k with k | k
  · exact pair_fwd h k
  · exact absurd (pair_up h) (pair_down k)
  · exact absurd (pair_up k) (pair_down h)
  · exact pair_back h k
/-- What holds at the letter i: ys waits, xs is filled for the others. -/
structure Stk (l : List UInt8) (i : Nat) (ys xs : List Nat) : Prop where
  wait : ∀ m, m < ys.length → ∃ p, ys[m]? = some p ∧ p < i ∧ H l p = m ∧ ∀ k, p < k → k ≤ i → H l p < H l k
  high : (ys.length : Int) = H l i
  full : xs.length = l.length
  done : ∀ a, a < i → a ∈ ys ∨ ∃ b, b < i ∧ Part l a b ∧ xs[a]? = some b
theorem Stk.start (l : List UInt8) : Stk l 0 [] (List.replicate l.length 0) := ⟨by intro m hm; simp at hm, rfl, by simp, by intro a ha; omega⟩
theorem Stk.up {l : List UInt8} {i : Nat} {ys xs : List Nat} (h : Stk l i ys xs) (hi : i < l.length) (hc : l.getD i 0 = 117) : Stk l (i + 1) (ys ++ [i]) xs := by
  have hH := H_up l i hc
  refine ⟨?_, by rw [hH, ← h.high]; simp, h.full, ?_⟩
  · intro m hm
    rcases Nat.lt_or_ge m ys.length with hlt | hge
    · obtain ⟨p, h1, h2, h3, h4⟩ := h.wait m hlt
      refine ⟨p, by rw [List.getElem?_append_left hlt]; exact h1, by omega, h3, ?_⟩
      intro k hk1 hk2
      rcases Nat.lt_or_ge i k with hki | hki
      · obtain rfl : k = i + 1 := by omega
        have := h.high; omega
      · exact h4 k hk1 hki
    · have hm2 : m = ys.length := by simp at hm; omega
      subst hm2
      refine ⟨i, by simp, by omega, h.high.symm, ?_⟩
      intro k hk1 hk2
      obtain rfl : k = i + 1 := by omega
      omega
  · intro a ha
    rcases Nat.lt_or_ge a i with hlt | hge
    · rcases h.done a hlt with h1 | ⟨b, h1, h2, h3⟩
      · exact .inl (by simp [h1])
      · exact .inr ⟨b, by omega, h2, h3⟩
    · obtain rfl : a = i := by omega
      exact .inl (by simp)
theorem Stk.some_ {l : List UInt8} {i : Nat} {ys xs : List Nat} (h : Stk l i ys xs) (hg : hgo 0 l = some 0) (hi : i < l.length) (hc : l.getD i 0 ≠ 117) : 0 < ys.length := by
  have h1 := H_down l i hc
  have h2 := H_pos l hg (i + 1) (by omega)
  have := h.high
  omega
theorem Stk.down {l : List UInt8} {i j : Nat} {ys xs : List Nat} (h : Stk l i ys xs) (hi : i < l.length) (hc : l.getD i 0 ≠ 117) (hj : ys[ys.length - 1]? = some j) (h0 : 0 < ys.length) : j < i ∧ Stk l (i + 1) (ys.take (ys.length - 1)) ((xs.set i j).set j i) := by
  have hH := H_down l i hc
  obtain ⟨p, p1, p2, p3, p4⟩ := h.wait (ys.length - 1) (by omega)
  have hpj : p = j := by rw [hj] at p1; exact (Option.some.inj p1).symm
  subst hpj
  have hhi := h.high
  have hP : Pair l p i := ⟨p2, hi, by rw [hH, p3]; omega, p4⟩
  refine ⟨p2, ?_, ?_, by simp [h.full], ?_⟩
  · intro m hm
    have hm2 : m < ys.length - 1 := by rw [List.length_take] at hm; omega
    obtain ⟨q, h1, h2, h3, h4⟩ := h.wait m (by omega)
    refine ⟨q, by rw [List.getElem?_take, if_pos hm2]; exact h1, by omega, h3, ?_⟩
    intro k hk1 hk2
    rcases Nat.lt_or_ge i k with hki | hki
    · obtain rfl : k = i + 1 := by omega
      omega
    · exact h4 k hk1 hki
  · rw [List.length_take, hH]; omega
  · intro a ha
    have hfull := h.full
    by_cases hai : a = i
    · subst hai
      refine .inr ⟨p, by omega, .inr hP, ?_⟩
      rw [List.getElem?_set_ne (by omega), List.getElem?_set_self (by omega)]
    · by_cases hap : a = p
      · subst hap
        refine .inr ⟨i, by omega, .inl hP, ?_⟩
        rw [List.getElem?_set_self (by rw [List.length_set]; omega)]
      · rcases h.done a (by omega) with h1 | ⟨b, h1, h2, h3⟩
        · refine .inl ?_
          obtain ⟨m, hm, he⟩ := List.getElem_of_mem h1
          have hm3 : m ≠ ys.length - 1 := by
            intro hc2
            subst hc2
            rw [List.getElem?_eq_getElem hm, he] at hj
            exact hap (Option.some.inj hj)
          exact List.mem_iff_getElem.mpr ⟨m, by rw [List.length_take]; omega, by rw [List.getElem_take]; exact he⟩
        · refine .inr ⟨b, by omega, h2, ?_⟩
          rw [List.getElem?_set_ne (fun hc2 => hap hc2.symm), List.getElem?_set_ne (fun hc2 => hai hc2.symm)]
          exact h3
theorem Stk.end_ {l : List UInt8} {ys xs : List Nat} (h : Stk l l.length ys xs) (hg : hgo 0 l = some 0) : xs.length = l.length ∧ ∀ a, a < l.length → ∃ b, b < l.length ∧ Part l a b ∧ xs[a]? = some b := by
  refine ⟨h.full, ?_⟩
  have h0 : ys = [] := List.eq_nil_of_length_eq_zero (by have := h.high; rw [H_end l hg] at this; omega)
  intro a ha
  rcases h.done a ha with h1 | h1
  · rw [h0] at h1; cases h1
  · exact h1
end Go.Proofs.Ytndehfkamfmmeaa
