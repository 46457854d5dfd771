/-
  What DecodeVarint reads, in plain Lean: at most one head of a text is a number's text: the one that ends at the first byte below 128.
-/
import Derived.Test.YtndehfkamfmmeaaVar
namespace Go.Proofs.Ytndehfkamfmmeaa
open Go.RowKit
def lowV : List UInt8 → Nat
  | [] => 0
  | c :: r => c.toNat % 128 + 128 * lowV r
theorem lowV_lt : ∀ l : List UInt8, lowV l < 128 ^ l.length := by
  intro l
  induction l with
  | nil => decide
  | cons c r ih => simp only [lowV, List.length_cons, Nat.pow_succ]; omega
theorem lowV_snoc : ∀ (l : List UInt8) (c : UInt8), lowV (l ++ [c]) = lowV l + 128 ^ l.length * (c.toNat % 128) := by
  intro l
  induction l with
  | nil => intro c; simp [lowV]
  | cons d r ih => intro c; simp only [List.cons_append, lowV, ih, List.length_cons, Nat.pow_succ]; rw [Nat.mul_add, Nat.mul_comm (128 ^ r.length) 128, Nat.mul_assoc]; omega
theorem pow7 (k : Nat) (h : k ≤ 7) : 128 ^ k ≤ 562949953421312 := by
  have : (128 : Nat) ^ k ≤ 128 ^ 7 := Nat.pow_le_pow_right (by decide) h
  have e : (128 : Nat) ^ 7 = 562949953421312 := by decide
  omega
def matchAt (l : List UInt8) (k : Nat) : Prop := strOfNums (encV 8 (lowV (l.take k))) = ⟨⟨l.take k⟩⟩
instance (l : List UInt8) (k : Nat) : Decidable (matchAt l k) := inferInstanceAs (Decidable (_ = _))
theorem enc_shape : ∀ (f n : Nat), n < 128 ^ (f + 1) → ∃ (pre : List Int) (last : Int), encV (f + 1) n = pre ++ [last] ∧ (∀ x ∈ pre, 128 ≤ x ∧ x < 256) ∧ 0 ≤ last ∧ last < 128 := by
  intro f
  induction f with
  | zero => intro n h; refine ⟨[], n, encV_small _ _ (by omega), by simp, by omega, by omega⟩
  | succ f ih =>
    intro n h
    by_cases hn : n < 128
    · exact ⟨[], n, encV_small _ _ hn, by simp, by omega, by omega⟩
    · obtain ⟨pre, last, h1, h2, h3, h4⟩ := ih (n / 128) (by rw [Nat.pow_succ] at h; omega)
      refine ⟨_ :: pre, last, by rw [encV_big _ _ hn, h1]; rfl, ?_, h3, h4⟩
      intro x hx
      rcases List.mem_cons.mp hx with rfl | hx
      · omega
      · exact h2 x hx
theorem match_stop (l : List UInt8) (k : Nat) (h1 : 1 ≤ k) (h7 : k ≤ 7) (hk : k ≤ l.length) (hm : matchAt l k) : (∀ j, j + 1 < k → 128 ≤ (l.getD j 0).toNat) ∧ (l.getD (k - 1) 0).toNat < 128 := by
  have hb := lowV_lt (l.take k)
  have hp := pow7 (l.take k).length (by rw [List.length_take]; omega)
  have hp8 : (128 : Nat) ^ (7 + 1) = 72057594037927936 := by decide
  obtain ⟨pre, last, he, hpre, hl1, hl2⟩ := enc_shape 7 (lowV (l.take k)) (by omega)
  unfold matchAt at hm
  rw [he] at hm
  have ht : l.take k = pre.map (fun n => UInt8.ofNat n.toNat) ++ [UInt8.ofNat last.toNat] := by
    have := congrArg (fun b : ByteArray => b.data.toList) hm
    simpa [strOfNums] using this.symm
  have hlen : pre.length + 1 = k := by
    have := congrArg List.length ht
    rw [List.length_take] at this; simp at this; omega
  have hget : ∀ j, j < k → l.getD j 0 = (l.take k).getD j 0 := by
    intro j hj
    simp [List.getD, hj]
  refine ⟨?_, ?_⟩
  · intro j hj
    rw [hget j (by omega), ht]
    have hj2 : j < pre.length := by omega
    have e : (pre.map (fun n => UInt8.ofNat n.toNat) ++ [UInt8.ofNat last.toNat]).getD j 0 = UInt8.ofNat (pre[j]).toNat := by
      simp [List.getD, List.getElem?_append, hj2]
    rw [e, UInt8.toNat_ofNat']
    have := hpre pre[j] (by simp)
    omega
  · rw [hget (k - 1) (by omega), ht]
    have e : (pre.map (fun n => UInt8.ofNat n.toNat) ++ [UInt8.ofNat last.toNat]).getD (k - 1) 0 = UInt8.ofNat last.toNat := by
      have : k - 1 = pre.length := by omega
      rw [this]; simp [List.getD]
    rw [e, UInt8.toNat_ofNat']
    omega
def decGo (l : List UInt8) : Nat → Nat → Option (Nat × Nat)
  | 0, _ => none
  | f + 1, k => if k ≤ l.length then (if matchAt l k then some (lowV (l.take k), k) else decGo l f (k + 1)) else none
def decV (l : List UInt8) : Option (Nat × Nat) := decGo l 7 1
def decR (o : Option (Nat × Nat)) : Value := match o with
  | some x => .tuple #[.int .i64 x.1, .int .i64 x.2]
  | none => .tuple #[.int .i64 0, .int .i64 0]
theorem dec_either (l : List UInt8) : ∀ f k, (decGo l f k = none ∧ ∀ j, k ≤ j → j < k + f → j ≤ l.length → ¬ matchAt l j) ∨ ∃ j, k ≤ j ∧ j < k + f ∧ j ≤ l.length ∧ matchAt l j ∧ decGo l f k = some (lowV (l.take j), j) := by
  intro f
  induction f with
  | zero => intro k; exact .inl ⟨rfl, by intros; omega⟩
  | succ f ih =>
    intro k
    unfold decGo
    by_cases hk : k ≤ l.length
    · rw [if_pos hk]
      by_cases hm : matchAt l k
      · rw [if_pos hm]; exact .inr ⟨k, Nat.le_refl _, by omega, hk, hm, rfl⟩
      · rw [if_neg hm]
        rcases ih (k + 1) with ⟨h1, h2⟩ | ⟨j, h1, h2, h3, h4, h5⟩
        · refine .inl ⟨h1, ?_⟩
          intro j hj1 hj2 hj3
          rcases Nat.lt_or_ge k j with h | h
          · exact h2 j (by omega) (by omega) hj3
          · obtain rfl : j = k := by omega
            exact hm
        · exact .inr ⟨j, by omega, by omega, h3, h4, h5⟩
    · rw [if_neg hk]
      exact .inl ⟨rfl, by intro j h1 h2 h3; omega⟩
theorem dec_at (l : List UInt8) (j : Nat) (h7 : j < 7) (hj : j < l.length) (hb : ∀ i, i < j → 128 ≤ (l.getD i 0).toNat) (hs : (l.getD j 0).toNat < 128) : decV l = if matchAt l (j + 1) then some (lowV (l.take (j + 1)), j + 1) else none := by
  rcases dec_either l 7 1 with ⟨h1, h2⟩ | ⟨k, h1, h2, h3, h4, h5⟩
  · rw [if_neg (h2 (j + 1) (by omega) (by omega) (by omega))]; exact h1
  · have hk := match_stop l k h1 (by omega) h3 h4
    have e : k = j + 1 := by
      rcases Nat.lt_trichotomy k (j + 1) with h | h | h
      · have := hb (k - 1) (by omega); omega
      · exact h
      · have := hk.1 j (by omega); omega
    subst e
    rw [if_pos h4]; exact h5
theorem dec_not (l : List UInt8) (hb : ∀ i, i < 7 → i < l.length → 128 ≤ (l.getD i 0).toNat) : decV l = none := by
  rcases dec_either l 7 1 with ⟨h1, h2⟩ | ⟨k, h1, h2, h3, h4, h5⟩
  · exact h1
  · have hk := match_stop l k h1 (by omega) h3 h4
    have := hb (k - 1) (by omega) (by omega)
    omega
end Go.Proofs.Ytndehfkamfmmeaa
