/-
  Plain lists of bytes: paths of letters u (117) and d (100), their heights.
-/
import Derived.Test.YthbfockobnfomaaKit
namespace Go.Proofs.Ythbfockobnfomaa
/-- The height behind the letters, from a height on; none where it falls below 0 or another letter stands. -/
def hgo : Nat → List UInt8 → Option Nat
  | h, [] => some h
  | h, c :: r => if c = 117 then hgo (h + 1) r else if c = 100 then (if h = 0 then none else hgo (h - 1) r) else none
def isPath (l : List UInt8) : Bool := hgo 0 l == some 0
def dyck (l : List UInt8) : Bool := decide (l.length ≤ 16) && isPath l
theorem hgo_u (h : Nat) (r : List UInt8) : hgo h (117 :: r) = hgo (h + 1) r := by simp [hgo]
theorem hgo_d (h : Nat) (r : List UInt8) : hgo (h + 1) (100 :: r) = hgo h r := by simp [hgo]
theorem hgo_d0 (r : List UInt8) : hgo 0 (100 :: r) = none := by simp [hgo]
theorem hgo_x (h : Nat) (c : UInt8) (r : List UInt8) (h1 : c ≠ 117) (h2 : c ≠ 100) : hgo h (c :: r) = none := by simp [hgo, h1, h2]
/-- The heights behind each letter. -/
def hts : Nat → List UInt8 → List Int
  | _, [] => []
  | h, c :: r => if c = 117 then ((h + 1 : Nat) : Int) :: hts (h + 1) r else ((h - 1 : Nat) : Int) :: hts (h - 1) r
theorem hts_u (h : Nat) (r : List UInt8) : hts h (117 :: r) = ((h + 1 : Nat) : Int) :: hts (h + 1) r := by simp [hts]
theorem hts_d (h : Nat) (r : List UInt8) : hts h (100 :: r) = ((h - 1 : Nat) : Int) :: hts (h - 1) r := by simp [hts]
theorem len_hts (h : Nat) (l : List UInt8) : (hts h l).length = l.length := by
  induction l generalizing h with
  | nil => rfl
  | cons c r ih => simp only [hts]; split <;> simp [ih]
/-- The heights before each letter and at the end. -/
def hl (l : List UInt8) : List Int := 0 :: hts 0 l
theorem len_hl (l : List UInt8) : (hl l).length = l.length + 1 := by simp [hl, len_hts]
theorem dyck_len {l : List UInt8} (h : dyck l = true) : l.length ≤ 16 := by simp [dyck] at h; exact h.1
theorem dyck_path {l : List UInt8} (h : dyck l = true) : hgo 0 l = some 0 := by simp [dyck, isPath] at h; exact h.2
theorem hgo_letters {l : List UInt8} : ∀ {h e : Nat}, hgo h l = some e → ∀ c ∈ l, c = 117 ∨ c = 100 := by
  induction l with
  | nil => intro h e _ c hc; cases hc
  | cons a r ih =>
    intro h e hh c hc
    by_cases h1 : a = 117
    · subst h1; rw [hgo_u] at hh
      rcases List.mem_cons.1 hc with rfl | hc
      · exact .inl rfl
      · exact ih hh c hc
    · by_cases h2 : a = 100
      · subst h2
        match h with
        | 0 => rw [hgo_d0] at hh; cases hh
        | h + 1 =>
          rw [hgo_d] at hh
          rcases List.mem_cons.1 hc with rfl | hc
          · exact .inr rfl
          · exact ih hh c hc
      · rw [hgo_x _ _ _ h1 h2] at hh; cases hh
end Go.Proofs.Ythbfockobnfomaa
