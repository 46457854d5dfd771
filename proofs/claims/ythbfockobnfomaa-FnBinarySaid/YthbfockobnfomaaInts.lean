/-
  The helpers of the laws on []int: eqIntS, markIntS, heldIntS, walked; what a slice of numbers reads as.
-/
import Derived.Test.YthbfockobnfomaaRows
import Derived.Test.YthbfockobnfomaaKit
namespace Go.Proofs.Ythbfockobnfomaa
open Go.RowKit
/-- A slice of numbers reads as l: it lies in blocks that are there. -/
def Rd (k : IntKind) (w : World) (A : Option Addr) (l : List Int) : Prop :=
  ∀ i, i < l.length → ∃ b o, A = some ⟨b, o, none⟩ ∧ b < w.heap.size ∧ w.cell? ⟨b, o + i, none⟩ = some (.int k (l.getD i 0))
theorem Rd.keep {k : IntKind} {w w' : World} {A : Option Addr} {l : List Int} (h : Rd k w A l) (hb : Below w.heap.size w w') : Rd k w' A l := by
  intro i hi
  obtain ⟨b, o, hA, hlt, hc⟩ := h i hi
  exact ⟨b, o, hA, Nat.lt_of_lt_of_le hlt hb.size, (hb.cell (p := ⟨b, o + i, none⟩) hlt).trans hc⟩
theorem Rd.nil_ {k : IntKind} {w : World} {A : Option Addr} : Rd k w A [] := fun i hi => absurd hi (by simp)
/-- A buffer reads as what it holds. -/
theorem Rd.buf {k : IntKind} {w0 w : World} {e : TypeId} {g n cap : Nat} {l : List Int} (h : Buf w0 w e (.slice (some ⟨g, 0, none⟩) n cap) (l.map (Value.int k))) : Rd k w (some ⟨g, 0, none⟩) l := by
  intro i hi
  refine ⟨g, 0, rfl, h.lt.2, ?_⟩
  have hl := h.len
  rw [Nat.zero_add, h.cellAt i (by rw [hl]; simpa using hi)]
  simp [List.getD, hi]
/-- The value that a buffer is: nil, or a row's head. -/
theorem Buf.value {w0 w : World} {e : TypeId} {v : Value} {k : IntKind} {l : List Int} (h : Buf w0 w e v (l.map (Value.int k))) : ∃ A cap, v = .slice A l.length cap ∧ Rd k w A l := by
  rcases h.own.2 with ⟨rfl, h0⟩ | ⟨g, cap, cur, rfl, _⟩
  · have : l = [] := List.eq_nil_of_length_eq_zero (by simpa using h0)
    subst this
    exact ⟨none, 0, rfl, Rd.nil_⟩
  · refine ⟨_, cap, by rw [List.length_map], Rd.buf (n := l.length) (cap := cap) (by simpa using h)⟩

set_option maxRecDepth 100000 in
theorem eqIntS (A B : Option Addr) (c d : Nat) (l : List Int) (w : World) (ha : Rd .i64 w A l) (hb : Rd .i64 w B l) (hn : l.length ≤ 1073741824) :
    Calls Try.prog 25 #[.slice A l.length c, .slice B l.length d] w fun e w' => e = .returned (.bool true) ∧ Below w.heap.size w w' := by
  obtain ⟨n, hnn⟩ : ∃ n, n = l.length := ⟨_, rfl⟩
  rw [← hnn] at hn ⊢
  have HN := Lib.hid hnn
  have HA := Lib.hid ha
  have HB := Lib.hid hb
  clear hnn ha hb
  go_enter Try.func25, Try.ntmps25
  go_wp2
  go_loopw [5] (fun i wr => ∃ k : Nat, k ≤ n ∧ i = .int .i64 k ∧ Hid (∃ m, wr = w.drewN m)) (fun i _ => n - (intOf i).toNat)
  case atStart => exact ⟨0, Nat.zero_le _, rfl, 0, rfl⟩
  case round =>
    obtain ⟨k, hk, rfl, HW⟩ := hrel
    by_cases hlt : k < n
    · obtain ⟨b1, o1, rfl, _, hc1⟩ := HA.out k (by rw [← HN.out]; exact hlt)
      obtain ⟨b2, o2, rfl, _, hc2⟩ := HB.out k (by rw [← HN.out]; exact hlt)
      obtain ⟨m, rfl⟩ := HW.out
      obtain ⟨x, hx⟩ : ∃ x, x = l.getD k 0 := ⟨_, rfl⟩
      rw [← hx] at hc1 hc2
      have hlt' : (k : Int) < (n : Int) := by omega
      have hk0 : (0 : Int) ≤ (k : Int) := by omega
      clear hx
      go_wp2_with fail
      go_quiet (fail)
      go_wp2
      go_roundw
      case rel => exact ⟨k + 1, by omega, by go_num, _, by first | rfl | rw [World.drewN_drewN]⟩
      case measure => simp [intOf]; omega
    · obtain ⟨m, rfl⟩ := HW.out
      go_wp2
      go_ret
      exact ⟨rfl, below_drewN (Below.refl _ _) _⟩

/-- The numbers from k on, n of them. -/
def marks (k : Int) (n : Nat) : List Int := (List.range n).map fun (i : Nat) => k + (i : Int)
theorem len_marks (k : Int) (n : Nat) : (marks k n).length = n := by simp [marks]
theorem marks_snoc (k : Int) (n : Nat) : marks k (n + 1) = marks k n ++ [k + (n : Int)] := by simp [marks, List.range_succ]
theorem marks_get (k : Int) (n i : Nat) (h : i < n) : (marks k n).getD i 0 = k + (i : Int) := by simp [marks, List.getD, h]
theorem set_mid {α : Type} (a b : List α) (x y : α) (j : Nat) (h : a.length = j) : (a ++ y :: b).set j x = (a ++ [x]) ++ b := by subst h; simp
theorem Buf.some_ {w0 w : World} {e : TypeId} {A : Option Addr} {n cap : Nat} {xs : List Value} (h : Buf w0 w e (.slice A n cap) xs) (hn : 0 < n) : ∃ g, A = some ⟨g, 0, none⟩ := by
  rcases h.own.2 with ⟨h', h0⟩ | ⟨g, cap', cur, h', _⟩
  · simp only [Value.slice.injEq] at h'; omega
  · simp only [Value.slice.injEq] at h'; exact ⟨g, h'.1⟩

set_option maxRecDepth 100000 in
set_option maxHeartbeats 400000 in
theorem markIntS (A : Option Addr) (n c : Nat) (l : List Int) (k0 : Nat) (w0 w : World) (hl : l.length = n) (hB : Buf w0 w 3 (.slice A n c) (l.map (Value.int .i64))) (hn : n ≤ 1073741824) (hk : k0 ≤ 1073741824) :
    Calls Try.prog 36 #[.slice A n c, .int .i64 (k0 : Int)] w fun e w' => e = .returned (.int .i64 ((k0 : Int) + n)) ∧ Buf w0 w' 3 (.slice A n c) ((marks k0 n).map (Value.int .i64)) ∧ Below w0.heap.size w w' := by
  go_enter Try.func36, Try.ntmps36
  go_wp2
  go_loopw [5, 1] (fun i k wr => ∃ j : Nat, j ≤ n ∧ i = .int .i64 j ∧ k = .int .i64 ((k0 : Int) + j) ∧ Buf w0 wr 3 (.slice A n c) ((marks k0 j ++ l.drop j).map (Value.int .i64)) ∧ Below w0.heap.size w wr) (fun i _ _ => n - (intOf i).toNat)
  case atStart => exact ⟨0, Nat.zero_le _, rfl, by go_num, hB, Below.refl _ _⟩
  case round =>
    obtain ⟨j, hj, rfl, rfl, hBr, hbl⟩ := hrel
    by_cases hlt : j < n
    · obtain ⟨g, rfl⟩ := hBr.some_ (by omega)
      have hc := hBr.cellAt j hlt
      have hf := hBr.frozenAt j
      have HS := Lib.hid (hBr.set j (.int .i64 ((k0 : Int) + j)))
      have hset : ((marks k0 j ++ l.drop j).map (Value.int .i64)).set j (.int .i64 ((k0 : Int) + j)) = (marks k0 (j + 1) ++ l.drop (j + 1)).map (Value.int .i64) := by
        rw [List.drop_eq_getElem_cons (by omega : j < l.length), ← List.map_set, marks_snoc, set_mid _ _ _ _ j (len_marks _ _)]
      rw [hset] at HS
      have HB := Lib.hid (hbl.setCell (p := ⟨g, j, none⟩) hBr.lt.1 (.int .i64 ((k0 : Int) + j)))
      obtain ⟨u, hu⟩ : ∃ u, ((marks k0 j ++ l.drop j).map (Value.int .i64))[j]? = some u := ⟨_, List.getElem?_eq_getElem (by simp [len_marks]; omega)⟩
      rw [hu] at hc
      clear hu hset hBr hbl
      go_wp2
      go_roundw
      case rel => exact ⟨j + 1, by omega, by go_num, by go_num, HS.out, HB.out⟩
      case measure => simp [intOf]; omega
    · obtain rfl : j = n := by omega
      rw [List.drop_of_length_le (by omega), List.append_nil] at hBr
      go_wp2
      go_ret
      exact ⟨rfl, hBr, hbl⟩

set_option maxRecDepth 100000 in
theorem heldIntS (A : Option Addr) (n c : Nat) (k0 : Nat) (w : World) (ha : Rd .i64 w A (marks k0 n)) (hn : n ≤ 1073741824) (hk : k0 ≤ 1073741824) :
    Calls Try.prog 37 #[.slice A n c, .int .i64 (k0 : Int)] w fun e w' => e = .returned (.int .i64 ((k0 : Int) + n)) ∧ Below w.heap.size w w' := by
  have HA := Lib.hid ha
  clear ha
  go_enter Try.func37, Try.ntmps37
  go_wp2
  go_loopw [5, 1] (fun i k wr => ∃ j : Nat, j ≤ n ∧ i = .int .i64 j ∧ k = .int .i64 ((k0 : Int) + j) ∧ Hid (∃ m, wr = w.drewN m)) (fun i _ _ => n - (intOf i).toNat)
  case atStart => exact ⟨0, Nat.zero_le _, rfl, by go_num, 0, rfl⟩
  case round =>
    obtain ⟨j, hj, rfl, rfl, HW⟩ := hrel
    obtain ⟨m, rfl⟩ := HW.out
    by_cases hlt : j < n
    · obtain ⟨b1, o1, rfl, _, hc1⟩ := HA.out j (by rw [len_marks]; exact hlt)
      rw [marks_get _ _ _ hlt] at hc1
      go_wp2
      go_roundw
      case rel => exact ⟨j + 1, by omega, by go_num, by go_num, m, rfl⟩
      case measure => simp [intOf]; omega
    · obtain rfl : j = n := by omega
      go_wp2
      go_ret
      exact ⟨rfl, below_drewN (Below.refl _ _) _⟩

/-- What a function that hands back a slice of numbers of its own hands back. -/
def RetI (l : List Int) (w : World) (e : Ending) (w' : World) : Prop := ∃ A c, e = .returned (.slice A l.length c) ∧ Buf w w' 3 (.slice A l.length c) (l.map (Value.int .i64))
theorem Buf.rd {k : IntKind} {w0 w : World} {e : TypeId} {A : Option Addr} {n c : Nat} {l : List Int} (h : Buf w0 w e (.slice A n c) (l.map (Value.int k))) : Rd k w A l := by
  obtain ⟨A', c', hv, hr⟩ := h.value
  simp only [Value.slice.injEq] at hv
  rw [hv.1]; exact hr
theorem RetI.of {l : List Int} {w w' : World} {v : Value} (h : Buf w w' 3 v (l.map (Value.int .i64))) : RetI l w (.returned v) w' := by
  obtain ⟨A, c, rfl, _⟩ := h.value
  exact ⟨A, c, rfl, h⟩
theorem below_le {a b w w' : World} (h : Below b.heap.size w w') (hs : a.heap.size ≤ b.heap.size) : Below a.heap.size w w' := h.mono hs

theorem Buf.cap {w0 w : World} {e : TypeId} {A : Option Addr} {n c : Nat} {xs : List Value} (h : Buf w0 w e (.slice A n c) xs) : n ≤ c := by
  rcases h.own.2 with ⟨h', h0⟩ | ⟨g, cap', cur, h', _, _, hnc, _⟩
  · simp only [Value.slice.injEq] at h'; omega
  · simp only [Value.slice.injEq] at h'; omega
theorem Buf.capm {w0 w : World} {e : TypeId} {A : Option Addr} {n c : Nat} {xs : List Value} (h : Buf w0 w e (.slice A n c) xs) : c ≤ 9223372036854775807 := by
  rcases h.own.2 with ⟨h', h0⟩ | ⟨g, cap', cur, h', _, _, _, hm, _⟩
  · simp only [Value.slice.injEq] at h'; omega
  · simp only [Value.slice.injEq] at h'; unfold maxLen at hm; omega
end Go.Proofs.Ythbfockobnfomaa
