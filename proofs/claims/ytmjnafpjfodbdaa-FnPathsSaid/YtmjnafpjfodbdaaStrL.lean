/-
  The helpers of the laws on []string: eqStringS, markText, markStringS, heldStringS, walked; what a slice of strings reads as.
-/
import Derived.Test.YtmjnafpjfodbdaaRows
import Derived.Test.YtmjnafpjfodbdaaEl
import Derived.Test.YtmjnafpjfodbdaaInts
import Derived.Deep.RegionHeld3
namespace Go.Proofs.Ytmjnafpjfodbdaa
open Go.RowKit
theorem elStr : Elem Try.prog 28 9 (.string ByteArray.empty) 16 := ⟨Try.underlying28, by kernel_rfl, rfl, by decide⟩
/-- A slice of strings reads as l. -/
def RdS (w : World) (A : Option Addr) (l : List ByteArray) : Prop :=
  ∀ i, i < l.length → ∃ b o, A = some ⟨b, o, none⟩ ∧ b < w.heap.size ∧ w.cell? ⟨b, o + i, none⟩ = some (.string (l.getD i ByteArray.empty))
theorem RdS.keep {w w' : World} {A : Option Addr} {l : List ByteArray} (h : RdS w A l) (hb : Below w.heap.size w w') : RdS w' A l := by
  intro i hi
  obtain ⟨b, o, hA, hlt, hc⟩ := h i hi
  exact ⟨b, o, hA, Nat.lt_of_lt_of_le hlt hb.size, (hb.cell (p := ⟨b, o + i, none⟩) hlt).trans hc⟩
theorem RdS.nil_ {w : World} {A : Option Addr} : RdS w A [] := fun i hi => absurd hi (by simp)
theorem RdS.buf {w0 w : World} {e : TypeId} {g n cap : Nat} {l : List ByteArray} (h : Buf w0 w e (.slice (some ⟨g, 0, none⟩) n cap) (l.map Value.string)) : RdS w (some ⟨g, 0, none⟩) l := by
  intro i hi
  refine ⟨g, 0, rfl, h.lt.2, ?_⟩
  have hl := h.len
  rw [Nat.zero_add, h.cellAt i (by rw [hl]; simpa using hi)]
  simp [List.getD, hi]
theorem Buf.valueS {w0 w : World} {e : TypeId} {v : Value} {l : List ByteArray} (h : Buf w0 w e v (l.map Value.string)) : ∃ A cap, v = .slice A l.length cap ∧ RdS w A l := by
  rcases h.own.2 with ⟨rfl, h0⟩ | ⟨g, cap, cur, rfl, _⟩
  · have : l = [] := List.eq_nil_of_length_eq_zero (by simpa using h0)
    subst this
    exact ⟨none, 0, rfl, RdS.nil_⟩
  · refine ⟨_, cap, by rw [List.length_map], RdS.buf (n := l.length) (cap := cap) (by simpa using h)⟩
theorem Buf.rdS {w0 w : World} {e : TypeId} {A : Option Addr} {n c : Nat} {l : List ByteArray} (h : Buf w0 w e (.slice A n c) (l.map Value.string)) : RdS w A l := by
  obtain ⟨A', c', hv, hr⟩ := h.valueS
  simp only [Value.slice.injEq] at hv
  rw [hv.1]; exact hr
/-- What a function that hands back a slice of strings of its own hands back. -/
def RetS (l : List ByteArray) (w : World) (e : Ending) (w' : World) : Prop := ∃ A c, e = .returned (.slice A l.length c) ∧ Buf w w' 9 (.slice A l.length c) (l.map Value.string)
theorem RetS.of {l : List ByteArray} {w w' : World} {v : Value} (h : Buf w w' 9 v (l.map Value.string)) : RetS l w (.returned v) w' := by
  obtain ⟨A, c, rfl, _⟩ := h.valueS
  exact ⟨A, c, rfl, h⟩

set_option maxRecDepth 100000 in
theorem eqStringS (A B : Option Addr) (c d : Nat) (l : List ByteArray) (w : World) (ha : RdS w A l) (hb : RdS w B l) (hn : l.length ≤ 1073741824) :
    Calls Try.prog 13 #[.slice A l.length c, .slice B l.length d] w fun e w' => e = .returned (.bool true) ∧ Below w.heap.size w w' := by
  obtain ⟨n, hnn⟩ : ∃ n, n = l.length := ⟨_, rfl⟩
  rw [← hnn] at hn ⊢
  have HN := Lib.hid hnn
  have HA := Lib.hid ha
  have HB := Lib.hid hb
  clear hnn ha hb
  go_enter Try.func13, Try.ntmps13
  go_wp2
  go_loopw [5] (fun i wr => ∃ k : Nat, k ≤ n ∧ i = .int .i64 k ∧ Hid (∃ m, wr = w.drewN m)) (fun i _ => n - (intOf i).toNat)
  case atStart => exact ⟨0, Nat.zero_le _, rfl, 0, rfl⟩
  case round =>
    obtain ⟨k, hk, rfl, HW⟩ := hrel
    by_cases hlt : k < n
    · obtain ⟨b1, o1, rfl, _, hc1⟩ := HA.out k (by rw [← HN.out]; exact hlt)
      obtain ⟨b2, o2, rfl, _, hc2⟩ := HB.out k (by rw [← HN.out]; exact hlt)
      obtain ⟨m, rfl⟩ := HW.out
      obtain ⟨x, hx⟩ : ∃ x, x = l.getD k ByteArray.empty := ⟨_, rfl⟩
      rw [← hx] at hc1 hc2
      have hlt' : (k : Int) < (n : Int) := by omega
      have hk0 : (0 : Int) ≤ (k : Int) := by omega
      clear hx
      go_wp2_with fail
      go_quiet (fail)
      go_wp2
      go_roundw
      case rel => exact ⟨k + 1, by omega, by go_num, _, by first | rfl | rw [World.drewN_drewN]⟩
      case measure => simp [intOf]; omega
    · obtain ⟨m, rfl⟩ := HW.out
      go_wp2
      go_ret
      exact ⟨rfl, below_drewN (Below.refl _ _) _⟩
/-- The digits of a number, the last one first. -/
def mdg : Nat → Nat → List Int
  | 0, _ => []
  | f + 1, a => if a = 0 then [] else ((48 + a % 10 : Nat) : Int) :: mdg f (a / 10)
theorem mdg_pos (f a : Nat) (h : a ≠ 0) : mdg (f + 1) a = ((48 + a % 10 : Nat) : Int) :: mdg f (a / 10) := by simp [mdg, h]
theorem mdg_zero (f : Nat) : mdg f 0 = [] := by cases f <;> simp [mdg]
theorem len_mdg (f a : Nat) : (mdg f a).length ≤ f := by
  induction f generalizing a with
  | zero => simp [mdg]
  | succ f ih => by_cases h : a = 0
                 · simp [mdg, h]
                 · rw [mdg_pos _ _ h, List.length_cons]; have := ih (a / 10); omega
/-- markText. -/
def mt (k : Nat) : ByteArray := strOfNums (109 :: (mdg 20 k).reverse)
theorem mt_size (k : Nat) : (mt k).size ≤ 21 := by
  have := len_mdg 20 k
  unfold mt; rw [strOfNums_size, List.length_cons, List.length_reverse]; omega
set_option maxRecDepth 100000 in
set_option maxHeartbeats 1000000 in
theorem markTextC (k0 : Nat) (w : World) (h0 : 0 < k0) (hk : k0 ≤ 1099511627776) : Calls Try.prog 45 #[.int .i64 (k0 : Int)] w fun e w' => e = .returned (.string (mt k0)) ∧ Below w.heap.size w w' := by
  go_enter Try.func45, Try.ntmps45
  go_wp2_with fail
  go_loopw [3, 0] (fun o m wr => ∃ (f x : Nat) (xs : List Int), m = .int .i64 (x : Int) ∧ x ≤ 1099511627776 ∧ Hid (x < 10 ^ f) ∧ f + xs.length = 20 ∧ Hid (xs ++ mdg f x = mdg 20 k0) ∧ o = .string (strOfNums xs.reverse) ∧ Below w.heap.size w wr) (fun _ m _ => (intOf m).natAbs)
  case atStart => exact ⟨20, k0, [], rfl, hk, (by show k0 < 10 ^ 20; omega), rfl, rfl, rfl, Below.refl _ _⟩
  case round =>
    obtain ⟨f, x, xs, rfl, hx1, hf, hl, H, rfl, hBr⟩ := hrel
    have hs : (strOfNums xs.reverse).size ≤ 20 := by rw [strOfNums_size, List.length_reverse]; omega
    have HC := Lib.hid (fun c => str_cons c xs.reverse)
    obtain ⟨o, ho⟩ : ∃ o, o = strOfNums xs.reverse := ⟨_, rfl⟩
    rw [← ho] at hs HC ⊢
    have HO := Lib.hid ho
    clear ho
    by_cases hx : x = 0
    · have HR : Hid (⟨#[109]⟩ ++ o = mt k0) := by
        have h1 := H.out
        rw [hx, mdg_zero, List.append_nil] at h1
        rw [HO.out, h1]; exact str_cons 109 _
      subst hx
      have hs1 : (⟨#[109]⟩ : ByteArray).size ≤ 1 := Nat.le_refl _
      go_wp2
      go_ret
      exact ⟨by rw [← HR.out]; rfl, hBr⟩
    · obtain ⟨f, rfl⟩ : ∃ f', f = f' + 1 := ⟨f - 1, by have := hf.out; cases f with | zero => simp at this; omega | succ f => omega⟩
      have HY : Hid (x / 10 < 10 ^ f ∧ xs ++ ((48 + x % 10 : Nat) : Int) :: mdg f (x / 10) = mdg 20 k0) := by
        refine ⟨?_, ?_⟩
        · have := hf.out; rw [Nat.pow_succ] at this; omega
        · have := H.out; rw [mdg_pos _ _ hx] at this; exact this
      have hxp : 0 < x := by omega
      clear hx
      have hm : (48 + (x : Int) % 10) % 256 = 48 + (x : Int) % 10 := by omega
      have hs2 : (strOfNums [48 + (x : Int) % 10]).size ≤ 1 := by rw [strOfNums_size]; exact Nat.le_refl _
      have hcv := conv_one (t := 33) (e := 5) (d := 9) elU8.sl Try.underlying5 Try.underlying9 wr (48 + (x : Int) % 10)
      go_wp2
      go_roundw
      case rel => exact ⟨f, x / 10, xs ++ [((48 + x % 10 : Nat) : Int)], by go_num, by omega, HY.out.1, by simp; omega, (by show xs ++ _ ++ mdg f _ = _; rw [List.append_assoc]; exact HY.out.2), by rw [HC.out, List.reverse_append, show ((48 + x % 10 : Nat) : Int) = 48 + (x : Int) % 10 from by omega]; rfl, hBr.alloc hBr.size _⟩
      case measure => simp [intOf]; omega
/-- The marks from k on, n of them. -/
def mtL (k n : Nat) : List ByteArray := (List.range n).map fun i => mt (k + i)
theorem len_mtL (k n : Nat) : (mtL k n).length = n := by simp [mtL]
theorem mtL_snoc (k n : Nat) : mtL k (n + 1) = mtL k n ++ [mt (k + n)] := by simp [mtL, List.range_succ]
theorem mtL_get (k n i : Nat) (h : i < n) : (mtL k n).getD i ByteArray.empty = mt (k + i) := by simp [mtL, List.getD, h]

set_option maxRecDepth 100000 in
set_option maxHeartbeats 400000 in
theorem markStringS (A : Option Addr) (n c : Nat) (l : List ByteArray) (k0 : Nat) (w0 w : World) (hl : l.length = n) (hB : Buf w0 w 9 (.slice A n c) (l.map Value.string)) (hn : n ≤ 1073741824) (hk1 : 0 < k0) (hk : k0 ≤ 1073741824) :
    Calls Try.prog 14 #[.slice A n c, .int .i64 (k0 : Int)] w fun e w' => e = .returned (.int .i64 ((k0 : Int) + n)) ∧ Buf w0 w' 9 (.slice A n c) ((mtL k0 n).map Value.string) ∧ Below w0.heap.size w w' := by
  go_enter Try.func14, Try.ntmps14
  go_wp2
  go_loopw [5, 1] (fun i k wr => ∃ j : Nat, j ≤ n ∧ i = .int .i64 j ∧ k = .int .i64 ((k0 : Int) + j) ∧ Buf w0 wr 9 (.slice A n c) ((mtL k0 j ++ l.drop j).map Value.string) ∧ Below w0.heap.size w wr) (fun i _ _ => n - (intOf i).toNat)
  case atStart => exact ⟨0, Nat.zero_le _, rfl, by go_num, hB, Below.refl _ _⟩
  case round =>
    obtain ⟨j, hj, rfl, rfl, hBr, hbl⟩ := hrel
    by_cases hlt : j < n
    · obtain ⟨g, rfl⟩ := hBr.some_ (by omega)
      have HM := Lib.hid (fun w => markTextC (k0 + j) w (by omega) (by omega))
      rw [show ((k0 + j : Nat) : Int) = (k0 : Int) + (j : Int) by omega] at HM
      go_wp2_with fail
      refine (HM.out _).mono ?_
      rintro e w2 ⟨rfl, hb2⟩
      have hB2 := hBr.after hb2
      have hc := hB2.cellAt j hlt
      have hf := hB2.frozenAt j
      have HS := Lib.hid (hB2.set j (.string (mt (k0 + j))))
      have hset : ((mtL k0 j ++ l.drop j).map Value.string).set j (.string (mt (k0 + j))) = (mtL k0 (j + 1) ++ l.drop (j + 1)).map Value.string := by
        rw [List.drop_eq_getElem_cons (by omega : j < l.length), ← List.map_set, mtL_snoc, set_mid _ _ _ _ j (len_mtL _ _)]
      rw [hset] at HS
      have hbl2 : Below w0.heap.size w w2 := hbl.trans (hb2.mono hBr.bel.size)
      have HB := Lib.hid (hbl2.setCell (p := ⟨g, j, none⟩) hBr.lt.1 (.string (mt (k0 + j))))
      obtain ⟨u, hu⟩ : ∃ u, ((mtL k0 j ++ l.drop j).map Value.string)[j]? = some u := ⟨_, List.getElem?_eq_getElem (by simp [len_mtL]; omega)⟩
      rw [hu] at hc
      clear hu hset hBr hbl hB2 hbl2 hb2
      go_wp2
      go_roundw
      case rel => exact ⟨j + 1, by omega, by go_num, by go_num, HS.out, HB.out⟩
      case measure => simp [intOf]; omega
    · obtain rfl : j = n := by omega
      rw [List.drop_of_length_le (by omega), List.append_nil] at hBr
      go_wp2
      go_ret
      exact ⟨rfl, hBr, hbl⟩

set_option maxRecDepth 100000 in
set_option maxHeartbeats 400000 in
theorem heldStringS (A : Option Addr) (n c : Nat) (k0 : Nat) (w : World) (ha : RdS w A (mtL k0 n)) (hn : n ≤ 1073741824) (hk1 : 0 < k0) (hk : k0 ≤ 1073741824) :
    Calls Try.prog 15 #[.slice A n c, .int .i64 (k0 : Int)] w fun e w' => e = .returned (.int .i64 ((k0 : Int) + n)) ∧ Below w.heap.size w w' := by
  have HA := Lib.hid ha
  clear ha
  go_enter Try.func15, Try.ntmps15
  go_wp2
  go_loopw [5, 1] (fun i k wr => ∃ j : Nat, j ≤ n ∧ i = .int .i64 j ∧ k = .int .i64 ((k0 : Int) + j) ∧ Below w.heap.size w wr) (fun i _ _ => n - (intOf i).toNat)
  case atStart => exact ⟨0, Nat.zero_le _, rfl, by go_num, Below.refl _ _⟩
  case round =>
    obtain ⟨j, hj, rfl, rfl, hbl⟩ := hrel
    by_cases hlt : j < n
    · obtain ⟨b1, o1, rfl, hlt1, hc1⟩ := (HA.out.keep hbl) j (by rw [len_mtL]; exact hlt)
      rw [mtL_get _ _ _ hlt] at hc1
      have HM := Lib.hid (fun w => markTextC (k0 + j) w (by omega) (by omega))
      rw [show ((k0 + j : Nat) : Int) = (k0 : Int) + (j : Int) by omega] at HM
      obtain ⟨x, hx⟩ : ∃ x, x = mt (k0 + j) := ⟨_, rfl⟩
      rw [← hx] at HM hc1
      clear hx
      go_wp2_with fail
      go_region_held3 (fun w' => w'.cell? ⟨b1, o1 + j, none⟩ = some (.string x)) (first | go_keep | (exact (hb2.cell (p := ⟨b1, o1 + j, none⟩) hlt1).trans (by simpa using hc1))) (first | (go_at_call 45; refine (HM.out _).mono ?_; rintro e w2 ⟨rfl, hb2⟩))
      have hb3 : Below w.heap.size w w2 := by first | exact below_then hbl hb2 | exact below_then hbl.drew hb2 | exact below_then (below_drewN hbl _) hb2
      have HB3 := Lib.hid hb3
      clear hb3 hb2 hbl
      go_wp2
      go_roundw
      case rel => exact ⟨j + 1, by omega, by go_num, by go_num, HB3.out⟩
      case measure => simp [intOf]; omega
    · obtain rfl : j = n := by omega
      go_wp2
      go_ret
      exact ⟨rfl, hbl⟩
end Go.Proofs.Ytmjnafpjfodbdaa
