/-
  The helpers of the laws on []string: eqStringS, markText, markStringS, heldStringS, walked; what a slice of strings reads as.
-/
import Derived.Test.YthbfockobnfomaaRows
import Derived.Test.YthbfockobnfomaaEl
import Derived.Test.YthbfockobnfomaaInts
import Derived.Deep.RegionHeld3
namespace Go.Proofs.Ythbfockobnfomaa
open Go.RowKit
theorem elStr : Elem Try.prog 78 9 (.string ByteArray.empty) 16 := ⟨Try.underlying78, by kernel_rfl, rfl, by decide⟩
/-- A slice of strings reads as l. -/
def RdS (w : World) (A : Option Addr) (l : List ByteArray) : Prop :=
  ∀ i, i < l.length → ∃ b o, A = some ⟨b, o, none⟩ ∧ b < w.heap.size ∧ w.cell? ⟨b, o + i, none⟩ = some (.string (l.getD i ByteArray.empty))
theorem RdS.keep {w w' : World} {A : Option Addr} {l : List ByteArray} (h : RdS w A l) (hb : Below w.heap.size w w') : RdS w' A l := by
  intro i hi
  obtain ⟨b, o, hA, hlt, hc⟩ := h i hi
  exact ⟨b, o, hA, Nat.lt_of_lt_of_le hlt hb.size, (hb.cell (p := ⟨b, o + i, none⟩) hlt).trans hc⟩
theorem RdS.nil_ {w : World} {A : Option Addr} : RdS w A [] := fun i hi => absurd hi (by simp)
theorem RdS.buf {w0 w : World} {e : TypeId} {g n cap : Nat} {l : List ByteArray} (h : Buf w0 w e (.slice (some ⟨g, 0, none⟩) n cap) (l.map Value.string)) : RdS w (some ⟨g, 0, none⟩) l := by
  intro i hi
  refine ⟨g, 0, rfl, h.lt.2, ?_⟩
  have hl := h.len
  rw [Nat.zero_add, h.cellAt i (by rw [hl]; simpa using hi)]
  simp [List.getD, hi]
theorem Buf.valueS {w0 w : World} {e : TypeId} {v : Value} {l : List ByteArray} (h : Buf w0 w e v (l.map Value.string)) : ∃ A cap, v = .slice A l.length cap ∧ RdS w A l := by
  rcases h.own.2 with ⟨rfl, h0⟩ | ⟨g, cap, cur, rfl, _⟩
  · have : l = [] := List.eq_nil_of_length_eq_zero (by simpa using h0)
    subst this
    exact ⟨none, 0, rfl, RdS.nil_⟩
  · refine ⟨_, cap, by rw [List.length_map], RdS.buf (n := l.length) (cap := cap) (by simpa using h)⟩
theorem Buf.rdS {w0 w : World} {e : TypeId} {A : Option Addr} {n c : Nat} {l : List ByteArray} (h : Buf w0 w e (.slice A n c) (l.map Value.string)) : RdS w A l := by
  obtain ⟨A', c', hv, hr⟩ := h.valueS
  simp only [Value.slice.injEq] at hv
  rw [hv.1]; exact hr
/-- What a function that hands back a slice of strings of its own hands back. -/
def RetS (l : List ByteArray) (w : World) (e : Ending) (w' : World) : Prop := ∃ A c, e = .returned (.slice A l.length c) ∧ Buf w w' 9 (.slice A l.length c) (l.map Value.string)
theorem RetS.of {l : List ByteArray} {w w' : World} {v : Value} (h : Buf w w' 9 v (l.map Value.string)) : RetS l w (.returned v) w' := by
  obtain ⟨A, c, rfl, _⟩ := h.valueS
  exact ⟨A, c, rfl, h⟩

/-- The digits of a number, the last one first. -/
def mdg : Nat → Nat → List Int
  | 0, _ => []
  | f + 1, a => if a = 0 then [] else ((48 + a % 10 : Nat) : Int) :: mdg f (a / 10)
theorem mdg_pos (f a : Nat) (h : a ≠ 0) : mdg (f + 1) a = ((48 + a % 10 : Nat) : Int) :: mdg f (a / 10) := by simp [mdg, h]
theorem mdg_zero (f : Nat) : mdg f 0 = [] := by cases f <;> simp [mdg]
theorem len_mdg (f a : Nat) : (mdg f a).length ≤ f := by
  induction f generalizing a with
  | zero => simp [mdg]
  | succ f ih => by_cases h : a = 0
                 · simp [mdg, h]
                 · rw [mdg_pos _ _ h, List.length_cons]; have := ih (a / 10); omega
/-- markText. -/
def mt (k : Nat) : ByteArray := strOfNums (109 :: (mdg 20 k).reverse)
theorem mt_size (k : Nat) : (mt k).size ≤ 21 := by
  have := len_mdg 20 k
  unfold mt; rw [strOfNums_size, List.length_cons, List.length_reverse]; omega
end Go.Proofs.Ythbfockobnfomaa
