/-
  The helpers of the laws on []int: eqIntS, markIntS, heldIntS, walked; what a slice of numbers reads as.
-/
import Derived.Test.YtlnighefombnjaaRows
import Derived.Test.YtlnighefombnjaaKit
namespace Go.Proofs.Ytlnighefombnjaa
open Go.RowKit
/-- A slice of numbers reads as l: it lies in blocks that are there. -/
def Rd (k : IntKind) (w : World) (A : Option Addr) (l : List Int) : Prop :=
  ∀ i, i < l.length → ∃ b o, A = some ⟨b, o, none⟩ ∧ b < w.heap.size ∧ w.cell? ⟨b, o + i, none⟩ = some (.int k (l.getD i 0))
theorem Rd.keep {k : IntKind} {w w' : World} {A : Option Addr} {l : List Int} (h : Rd k w A l) (hb : Below w.heap.size w w') : Rd k w' A l := by
  intro i hi
  obtain ⟨b, o, hA, hlt, hc⟩ := h i hi
  exact ⟨b, o, hA, Nat.lt_of_lt_of_le hlt hb.size, (hb.cell (p := ⟨b, o + i, none⟩) hlt).trans hc⟩
theorem Rd.nil_ {k : IntKind} {w : World} {A : Option Addr} : Rd k w A [] := fun i hi => absurd hi (by simp)
/-- A buffer reads as what it holds. -/
theorem Rd.buf {k : IntKind} {w0 w : World} {e : TypeId} {g n cap : Nat} {l : List Int} (h : Buf w0 w e (.slice (some ⟨g, 0, none⟩) n cap) (l.map (Value.int k))) : Rd k w (some ⟨g, 0, none⟩) l := by
  intro i hi
  refine ⟨g, 0, rfl, h.lt.2, ?_⟩
  have hl := h.len
  rw [Nat.zero_add, h.cellAt i (by rw [hl]; simpa using hi)]
  simp [List.getD, hi]
/-- The value that a buffer is: nil, or a row's head. -/
theorem Buf.value {w0 w : World} {e : TypeId} {v : Value} {k : IntKind} {l : List Int} (h : Buf w0 w e v (l.map (Value.int k))) : ∃ A cap, v = .slice A l.length cap ∧ Rd k w A l := by
  rcases h.own.2 with ⟨rfl, h0⟩ | ⟨g, cap, cur, rfl, _⟩
  · have : l = [] := List.eq_nil_of_length_eq_zero (by simpa using h0)
    subst this
    exact ⟨none, 0, rfl, Rd.nil_⟩
  · refine ⟨_, cap, by rw [List.length_map], Rd.buf (n := l.length) (cap := cap) (by simpa using h)⟩


/-- The numbers from k on, n of them. -/
def marks (k : Int) (n : Nat) : List Int := (List.range n).map fun (i : Nat) => k + (i : Int)
theorem len_marks (k : Int) (n : Nat) : (marks k n).length = n := by simp [marks]
theorem marks_snoc (k : Int) (n : Nat) : marks k (n + 1) = marks k n ++ [k + (n : Int)] := by simp [marks, List.range_succ]
theorem marks_get (k : Int) (n i : Nat) (h : i < n) : (marks k n).getD i 0 = k + (i : Int) := by simp [marks, List.getD, h]
theorem set_mid {α : Type} (a b : List α) (x y : α) (j : Nat) (h : a.length = j) : (a ++ y :: b).set j x = (a ++ [x]) ++ b := by subst h; simp
theorem Buf.some_ {w0 w : World} {e : TypeId} {A : Option Addr} {n cap : Nat} {xs : List Value} (h : Buf w0 w e (.slice A n cap) xs) (hn : 0 < n) : ∃ g, A = some ⟨g, 0, none⟩ := by
  rcases h.own.2 with ⟨h', h0⟩ | ⟨g, cap', cur, h', _⟩
  · simp only [Value.slice.injEq] at h'; omega
  · simp only [Value.slice.injEq] at h'; exact ⟨g, h'.1⟩


/-- What a function that hands back a slice of numbers of its own hands back. -/
def RetI (l : List Int) (w : World) (e : Ending) (w' : World) : Prop := ∃ A c, e = .returned (.slice A l.length c) ∧ Buf w w' 3 (.slice A l.length c) (l.map (Value.int .i64))
theorem Buf.rd {k : IntKind} {w0 w : World} {e : TypeId} {A : Option Addr} {n c : Nat} {l : List Int} (h : Buf w0 w e (.slice A n c) (l.map (Value.int k))) : Rd k w A l := by
  obtain ⟨A', c', hv, hr⟩ := h.value
  simp only [Value.slice.injEq] at hv
  rw [hv.1]; exact hr
theorem RetI.of {l : List Int} {w w' : World} {v : Value} (h : Buf w w' 3 v (l.map (Value.int .i64))) : RetI l w (.returned v) w' := by
  obtain ⟨A, c, rfl, _⟩ := h.value
  exact ⟨A, c, rfl, h⟩
theorem below_le {a b w w' : World} (h : Below b.heap.size w w') (hs : a.heap.size ≤ b.heap.size) : Below a.heap.size w w' := h.mono hs

theorem Buf.cap {w0 w : World} {e : TypeId} {A : Option Addr} {n c : Nat} {xs : List Value} (h : Buf w0 w e (.slice A n c) xs) : n ≤ c := by
  rcases h.own.2 with ⟨h', h0⟩ | ⟨g, cap', cur, h', _, _, hnc, _⟩
  · simp only [Value.slice.injEq] at h'; omega
  · simp only [Value.slice.injEq] at h'; omega
end Go.Proofs.Ytlnighefombnjaa
