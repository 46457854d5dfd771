/-
  PathOfHeights in plain Lean: the word of a row of heights, and which rows are heights of a path.
-/
import Derived.Test.YtndehfkamfmmeaaDyckP
import Derived.Test.YtndehfkamfmmeaaKit
import Derived.Test.YtndehfkamfmmeaaBsP
namespace Go.Proofs.Ytndehfkamfmmeaa
open Go.RowKit
def word : List Int → List UInt8
  | a :: b :: r => (if a < b then 117 else 100) :: word (b :: r)
  | _ => []
def okS : List Int → Bool
  | a :: b :: r => (decide (0 ≤ b ∧ b ≤ 8) && (decide (0 ≤ a ∧ a ≤ 8) && decide (b - a = 1 ∨ b - a = -1))) && okS (b :: r)
  | _ => true
theorem len_word : ∀ zs : List Int, (word zs).length = zs.length - 1 := by
  intro zs
  induction zs with
  | nil => rfl
  | cons a r ih =>
    cases r with
    | nil => rfl
    | cons b r => simp only [word, List.length_cons] at ih ⊢; omega
theorem hgo_le8 : ∀ (l : List UInt8) (h : Nat), hgo h l = some 0 → h ≤ l.length := by
  intro l
  induction l with
  | nil => intro h hg; simp [hgo] at hg; omega
  | cons c r ih =>
    intro h hg
    rcases hgo_letters hg c (by simp) with rfl | rfl
    · rw [hgo_u] at hg; have := ih _ hg; simp; omega
    · cases h with
      | zero => omega
      | succ h => rw [hgo_d] at hg; have := ih _ hg; simp; omega
theorem ok_of_path : ∀ (l : List UInt8) (h : Nat), hgo h l = some 0 → h + l.length ≤ 16 → okS ((h : Int) :: hts h l) = true ∧ word ((h : Int) :: hts h l) = l := by
  intro l
  induction l with
  | nil => intro h _ _; exact ⟨rfl, rfl⟩
  | cons c r ih =>
    intro h hg hb
    have hle := hgo_le8 _ _ hg
    rcases hgo_letters hg c (by simp) with rfl | rfl
    · rw [hgo_u] at hg
      have hle2 := hgo_le8 _ _ hg
      obtain ⟨h1, h2⟩ := ih (h + 1) hg (by simp at hb; omega)
      rw [hts_u]
      simp only [okS, word, h1, h2]
      simp at hb hle hle2 ⊢
      omega
    · cases h with
      | zero => rw [hgo_d0] at hg; cases hg
      | succ h =>
        rw [hgo_d] at hg
        have hle2 := hgo_le8 _ _ hg
        obtain ⟨h1, h2⟩ := ih h hg (by simp at hb; omega)
        rw [hts_d]
        simp only [Nat.add_sub_cancel]
        simp only [okS, word, h1, h2]
        simp at hb hle hle2 ⊢
        omega
theorem path_of_ok : ∀ (r : List Int) (h : Nat), okS ((h : Int) :: r) = true → hts h (word ((h : Int) :: r)) = r := by
  intro r
  induction r with
  | nil => intro h _; rfl
  | cons b r ih =>
    intro h ho
    simp only [okS, Bool.and_eq_true, decide_eq_true_eq] at ho
    obtain ⟨⟨h1, h2, h3⟩, h4⟩ := ho
    obtain ⟨k, rfl⟩ : ∃ k : Nat, b = (k : Int) := ⟨b.toNat, by omega⟩
    have hi := ih k h4
    rcases h3 with h3 | h3
    · simp only [word]
      rw [if_pos (by omega), hts_u]
      obtain rfl : k = h + 1 := by omega
      rw [hi]
    · simp only [word]
      rw [if_neg (by omega), hts_d]
      obtain rfl : k = h - 1 := by omega
      rw [hi]
/-- What PathOfHeights returns. -/
def pohV (zs : List Int) : Option (List UInt8) := if dyck (word zs) = true ∧ hl (word zs) = zs then some (word zs) else none
def pohR (o : Option (List UInt8)) : Value := match o with
  | some l => .tuple #[.string ⟨⟨l⟩⟩, .bool true]
  | none => .tuple #[.string ByteArray.empty, .bool false]
theorem poh_spec (zs : List Int) : pohV zs = if okS zs = true ∧ zs.head? = some 0 ∧ dyck (word zs) = true then some (word zs) else none := by
  unfold pohV
  by_cases h : okS zs = true ∧ zs.head? = some 0 ∧ dyck (word zs) = true
  · rw [if_pos h]
    refine if_pos ⟨h.2.2, ?_⟩
    cases zs with
    | nil => cases h.2.1
    | cons a r =>
      have ha : a = 0 := by simpa using h.2.1
      subst ha
      have := path_of_ok r 0 h.1
      unfold hl
      exact congrArg _ this
  · rw [if_neg h]
    refine if_neg ?_
    intro hc
    apply h
    have hp := dyck_path hc.1
    have hlen := dyck_len hc.1
    have := ok_of_path (word zs) 0 hp (by omega)
    have e : ((0 : Nat) : Int) :: hts 0 (word zs) = zs := hc.2
    rw [e] at this
    exact ⟨this.1, by rw [← e]; rfl, hc.1⟩
end Go.Proofs.Ytndehfkamfmmeaa
