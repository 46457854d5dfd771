/-
  What ParseInt reads, in plain Lean: a text is a number's text only where its bytes after the sign are digits.
-/
import Derived.Test.YtndehfkamfmmeaaFmtS
namespace Go.Proofs.Ytndehfkamfmmeaa
open Go.RowKit
def dg (c : UInt8) : Bool := decide (48 ≤ c.toNat ∧ c.toNat ≤ 57)
def sumD : Int → List UInt8 → Int
  | n, [] => n
  | n, c :: r => sumD (if dg c = true then 10 * n + ((c.toNat : Int) - 48) else n) r
def cntD : Nat → List UInt8 → Nat
  | k, [] => k
  | k, c :: r => cntD (if dg c = true then k + 1 else k) r
def atL (l : List UInt8) : Nat := if l.head? = some 45 then 1 else 0
/-- The number that the text l would be. -/
def parN (l : List UInt8) : Int := if l.head? = some 45 then -(sumD 0 (l.take 11)) else sumD 0 (l.take 11)
def parS (l : List UInt8) : Option Int := if 9 < cntD 0 (l.take 11) ∨ 10 < l.length ∨ strOfNums (fmt (parN l)) ≠ ⟨⟨l⟩⟩ then none else some (parN l)
def parR (o : Option Int) : Value := match o with
  | some n => .tuple #[.int .i64 n, .bool true]
  | none => .tuple #[.int .i64 0, .bool false]
theorem sum_bound : ∀ (l : List UInt8) (n : Int) (j : Nat), 0 ≤ n → n < (10 : Int) ^ j → 0 ≤ sumD n l ∧ sumD n l < (10 : Int) ^ (j + l.length) := by
  intro l
  induction l with
  | nil => intro n j h0 h1; exact ⟨h0, h1⟩
  | cons c r ih =>
    intro n j h0 h1
    have hp : (10 : Int) ^ (j + 1) = 10 ^ j * 10 := Int.pow_succ _ _
    have hlen : j + (c :: r).length = (j + 1) + r.length := by simp; omega
    rw [hlen]
    unfold sumD
    by_cases hd : dg c = true
    · rw [if_pos hd]
      have hd2 : 48 ≤ c.toNat ∧ c.toNat ≤ 57 := of_decide_eq_true hd
      exact ih _ (j + 1) (by omega) (by omega)
    · rw [if_neg hd]
      exact ih _ (j + 1) h0 (by omega)
theorem cnt_all : ∀ (l : List UInt8) (k : Nat), (∀ c ∈ l, dg c = true) → cntD k l = k + l.length := by
  intro l
  induction l with
  | nil => intro k _; rfl
  | cons c r ih =>
    intro k h
    unfold cntD
    rw [if_pos (h c (by simp)), ih _ (fun x hx => h x (by simp [hx]))]
    simp; omega
theorem dig_digits : ∀ (f a : Nat), ∀ d ∈ dig f a, 48 ≤ d ∧ d ≤ 57 := by
  intro f
  induction f with
  | zero => intro a d hd; simp [dig] at hd
  | succ f ih =>
    intro a d hd
    by_cases h : a = 0
    · simp [dig, h] at hd
    · rw [dig_pos _ _ h] at hd
      rcases List.mem_cons.mp hd with rfl | hd
      · omega
      · exact ih _ _ hd
theorem fmt_shape (n : Int) : ∃ ds : List Int, ds ≠ [] ∧ (∀ d ∈ ds, 48 ≤ d ∧ d ≤ 57) ∧ fmt n = sgn n ++ ds := by
  by_cases h : n = 0
  · subst h; exact ⟨[48], by simp, by simp, rfl⟩
  · refine ⟨(dig 20 n.natAbs).reverse, ?_, ?_, by unfold fmt; rw [if_neg h]⟩
    · rw [dig_pos _ _ (by omega)]; simp
    · intro d hd; exact dig_digits _ _ d (List.mem_reverse.mp hd)
/-- Where l is the text of parN l, there is at least one byte after the sign, and all of them are digits. -/
theorem text_digits (l : List UInt8) (h : strOfNums (fmt (parN l)) = ⟨⟨l⟩⟩) : l.drop (atL l) ≠ [] ∧ ∀ c ∈ l.drop (atL l), dg c = true := by
  obtain ⟨ds, hne, hds, hf⟩ := fmt_shape (parN l)
  have hb : ∀ c ∈ ds.map (fun n => UInt8.ofNat n.toNat), dg c = true := by
    intro c hc
    obtain ⟨d, hd, rfl⟩ := List.mem_map.mp hc
    have := hds d hd
    unfold dg
    rw [decide_eq_true_eq]
    have e : (UInt8.ofNat d.toNat).toNat = d.toNat := by rw [UInt8.toNat_ofNat']; omega
    omega
  have hl : l = (fmt (parN l)).map (fun n => UInt8.ofNat n.toNat) := by
    have := congrArg (fun b : ByteArray => b.data.toList) h
    simpa [strOfNums] using this.symm
  have hnn := (sum_bound (l.take 11) 0 0 (by omega) (by omega)).1
  rw [hf, List.map_append] at hl
  by_cases hs : parN l < 0
  · have hh : l.head? = some 45 := by
      rcases Decidable.em (l.head? = some 45) with h1 | h1
      · exact h1
      · unfold parN at hs; rw [if_neg h1] at hs; omega
    have hsg : sgn (parN l) = [45] := if_pos hs
    rw [hsg] at hl
    have e : l.drop (atL l) = ds.map (fun n => UInt8.ofNat n.toNat) := by
      unfold atL; rw [if_pos hh]
      conv => lhs; rw [hl]
      rfl
    rw [e]; exact ⟨by simpa using hne, hb⟩
  · have hsg : sgn (parN l) = [] := if_neg hs
    rw [hsg] at hl
    have hl2 : l = ds.map (fun n => UInt8.ofNat n.toNat) := hl
    have hh : ¬ l.head? = some 45 := by
      intro hc
      have : (45 : UInt8) ∈ ds.map (fun n => UInt8.ofNat n.toNat) := by rw [← hl2]; exact List.mem_of_head? hc
      have := hb _ this
      revert this; decide
    have e : l.drop (atL l) = ds.map (fun n => UInt8.ofNat n.toNat) := by
      unfold atL; rw [if_neg hh]; exact hl2
    rw [e]; exact ⟨by simpa using hne, hb⟩
theorem parS_long (l : List UInt8) (h : (l.drop (atL l)).length = 0 ∨ 9 < (l.drop (atL l)).length) : parS l = none := by
  unfold parS
  refine if_pos ?_
  rcases Decidable.em (strOfNums (fmt (parN l)) = ⟨⟨l⟩⟩) with ht | ht
  · have hd := text_digits l ht
    rcases h with h | h
    · exact absurd (List.eq_nil_of_length_eq_zero h) hd.1
    · rcases Nat.lt_or_ge 10 l.length with h1 | h1
      · exact .inr (.inl h1)
      · have ha : atL l = 0 := by
          rw [List.length_drop] at h
          omega
        rw [ha, List.drop_zero] at hd h
        refine .inl ?_
        rw [List.take_of_length_le (by omega), cnt_all _ _ hd.2]
        omega
  · exact .inr (.inr ht)
theorem parS_bad (l : List UInt8) (c : UInt8) (hc : c ∈ l.drop (atL l)) (hd : dg c = false) : parS l = none := by
  unfold parS
  refine if_pos ?_
  rcases Decidable.em (strOfNums (fmt (parN l)) = ⟨⟨l⟩⟩) with ht | ht
  · have := (text_digits l ht).2 c hc; rw [hd] at this; cases this
  · exact .inr (.inr ht)
theorem parS_good (l : List UInt8) (h1 : ∀ c ∈ l.drop (atL l), dg c = true) (h2 : (l.drop (atL l)).length ≤ 9) :
    parN l = (if l.head? = some 45 then -(sumD 0 (l.drop (atL l))) else sumD 0 (l.drop (atL l))) ∧ parS l = if strOfNums (fmt (parN l)) = ⟨⟨l⟩⟩ then some (parN l) else none := by
  have ha : atL l ≤ 1 := by unfold atL; split <;> omega
  have hlen : l.length ≤ 10 := by rw [List.length_drop] at h2; omega
  have ht : l.take 11 = l := List.take_of_length_le (by omega)
  have hsum : sumD 0 l = sumD 0 (l.drop (atL l)) ∧ cntD 0 l = (l.drop (atL l)).length := by
    by_cases hh : l.head? = some 45
    · have hat : atL l = 1 := if_pos hh
      rw [hat] at h1 ⊢
      cases l with
      | nil => exact ⟨rfl, rfl⟩
      | cons c r =>
        have hc : c = 45 := by simpa using hh
        subst hc
        have hz : dg 45 = false := by decide
        simp only [sumD, cntD, hz, List.drop_succ_cons, List.drop_zero]
        refine ⟨rfl, ?_⟩
        have h1' : ∀ c ∈ r, dg c = true := by simpa using h1
        show cntD 0 r = _
        rw [cnt_all _ _ h1']; omega
    · have hat : atL l = 0 := if_neg hh
      rw [hat, List.drop_zero] at h1 ⊢
      refine ⟨rfl, ?_⟩
      rw [cnt_all _ _ h1]; omega
  refine ⟨by unfold parN; rw [ht, hsum.1], ?_⟩
  unfold parS
  rw [ht, hsum.2]
  by_cases he : strOfNums (fmt (parN l)) = ⟨⟨l⟩⟩
  · rw [if_pos he, if_neg]
    intro hc
    rcases hc with hc | hc | hc
    · omega
    · omega
    · exact hc he
  · rw [if_neg he, if_pos (.inr (.inr he))]
end Go.Proofs.Ytndehfkamfmmeaa
