/-
  The reference's draws: a choice, one of a list of numbers, a text, a number. Only bounds are said of what is drawn.
-/
import Derived.Test.YthbfockobnfomaaDraw
import Derived.Test.YthbfockobnfomaaEl
namespace Go.Proofs.Ythbfockobnfomaa
open Go.RowKit
theorem Cur.lt {w0 w : World} {q : Nat} {A : Option Addr} {n c : Nat} {zs : List Int} (h : Cur w0 w q A n c zs) : q < w.heap.size := by
  obtain ⟨i, x, _, _, hq⟩ := h.at_; exact lt_of_block hq
theorem Cur.below {w0 w w' : World} {q : Nat} {A : Option Addr} {n c : Nat} {zs : List Int} (h : Cur w0 w q A n c zs) (hb : Below w.heap.size w w') : Cur w0 w' q A n c zs := by
  have hl := h.lt
  obtain ⟨i, x, h0, h1, hq⟩ := h.at_
  exact ⟨h.row, h.len, h.small, h.bytes, h.lo, below_then h.bel hb, i, x, h0, h1, (hb.block q hl).trans hq⟩
theorem Cur.notOwn {w0 w1 w : World} {q : Nat} {A : Option Addr} {n c : Nat} {zs : List Int} (hC : Cur w0 w q A n c zs) {e : TypeId} {v : Value} {xs : List Value} (h : Buf w1 w e v xs) (hne : 80 ≠ e) : v.ownBlock ≠ some q := by
  obtain ⟨i, x, _, _, hq⟩ := hC.at_
  intro hv
  rcases h.own.2 with ⟨rfl, _⟩ | ⟨a, ca, cu, rfl, _, hh, _⟩
  · cases hv
  · simp only [Value.ownBlock, Option.some.injEq] at hv
    subst hv
    rw [hq] at hh
    injection hh with h1
    injection h1 with _ h2
    exact hne h2
/-- What is drawn does not change a row of our own. -/
theorem Cur.buf {w0 w w' : World} {q : Nat} {A : Option Addr} {n c : Nat} {zs : List Int} (hC : Cur w0 w q A n c zs) {e : TypeId} {v : Value} {xs : List Value} (h : Buf w0 w e v xs) (hne : 80 ≠ e) (hg : w.grownBy w' (some q)) : Buf w0 w' e v xs :=
  h.kept_ hg (Or.inr (hC.notOwn h hne)) (fun k e => by cases e; exact hC.lo)
/-- An append to a row of our own does not change the cursor. -/
theorem Cur.app {w0 w w' : World} {q : Nat} {A : Option Addr} {n c : Nat} {zs : List Int} (hC : Cur w0 w q A n c zs) {e : TypeId} {v : Value} {xs : List Value} (h : Buf w0 w e v xs) (hne : 80 ≠ e) (hg : w.grownBy w' v.ownBlock) (hb : Below w0.heap.size w0 w') : Cur w0 w' q A n c zs := by
  have hl := hC.lt
  have hno := hC.notOwn h hne
  obtain ⟨i, x, h0, h1, hq⟩ := hC.at_
  exact ⟨hC.row, hC.len, hC.small, hC.bytes, hC.lo, hb, i, x, h0, h1, (hg.block q hl (fun e => hno e.symm)).trans hq⟩
set_option maxRecDepth 100000 in
theorem onceC (w0 w : World) (q : Nat) (A : Option Addr) (n c : Nat) (zs : List Int) (hC : Cur w0 w q A n c zs) (N : Nat) (h0 : 0 < N) (hN : N ≤ 4294967296) :
    Calls Try.prog 74 #[.pointer (some ⟨q, 0, none⟩), .int .i64 (N : Int)] w fun e w' => (∃ b : Bool, e = .returned (.bool b)) ∧ Cur w0 w' q A n c zs ∧ w.grownBy w' (some q) := by
  have HB := Lib.hid (belowC w0 w q A n c zs hC N h0 hN)
  clear hC
  go_enter Try.func74, Try.ntmps74
  go_wp2_with fail
  refine HB.out.mono ?_
  rintro e w1 ⟨⟨x, rfl, hx⟩, hC1, hg1⟩
  go_wp2_with fail
  go_ret
  exact ⟨⟨_, rfl⟩, hC1, hg1⟩
set_option maxRecDepth 100000 in
theorem pickIntC (w0 w : World) (q : Nat) (A : Option Addr) (n c : Nat) (zs : List Int) (hC : Cur w0 w q A n c zs) (v : Value) (g L m : Nat) (l : List Int) (hv : v = .slice (some ⟨g, 0, none⟩) L m) (hL : l.length = L) (h0 : 0 < L) (hN : L ≤ 4294967296) (hB : Buf w0 w 3 v (l.map (Value.int .i64))) :
    Calls Try.prog 75 #[.pointer (some ⟨q, 0, none⟩), v] w fun e w' => (∃ x : Int, e = .returned (.int .i64 x) ∧ x ∈ l) ∧ Cur w0 w' q A n c zs ∧ w.grownBy w' (some q) := by
  have HB := Lib.hid (belowC w0 w q A n c zs hC L h0 hN)
  have HR := Lib.hid (fun w' (hg : w.grownBy w' (some q)) => (by have hb := hC.buf hB (by decide) hg; rw [hv, ← hL] at hb; exact Rd.buf hb : Rd .i64 w' (some ⟨g, 0, none⟩) l))
  subst hv
  have HL := Lib.hid hL
  clear hC hB hL
  go_enter Try.func75, Try.ntmps75
  go_wp2_with fail
  refine HB.out.mono ?_
  rintro e w1 ⟨⟨x, rfl, hx⟩, hC1, hg1⟩
  have hc := (HR.out _ hg1).at_ x (by rw [HL.out]; exact hx)
  have hx1 : (x : Int) < (L : Int) := by omega
  have hx0 : (0 : Int) ≤ (x : Int) := by omega
  have hm : l[x]?.getD 0 ∈ l := by rw [List.getElem?_eq_getElem (by rw [HL.out]; exact hx)]; exact List.getElem_mem _
  rw [Nat.zero_add, List.getD_eq_getElem?_getD] at hc
  go_wp2_with fail
  go_ret
  exact ⟨⟨_, rfl, hm⟩, hC1, hg1⟩
theorem buf_snoc {w0 w : World} {e : TypeId} {v : Value} {k : IntKind} {xs : List Int} {y : Int} (h : Buf w0 w e v (xs.map (Value.int k) ++ [Value.int k y])) : Buf w0 w e v ((xs ++ [y]).map (Value.int k)) := by rw [List.map_append]; exact h
set_option maxRecDepth 100000 in
set_option maxHeartbeats 1000000 in
theorem textC (w0 w : World) (q : Nat) (A : Option Addr) (n c : Nat) (zs : List Int) (hC : Cur w0 w q A n c zs) (N : Nat) (hN : N ≤ 1000) :
    Calls Try.prog 98 #[.pointer (some ⟨q, 0, none⟩), .int .i64 (N : Int)] w fun e w' => (∃ s : ByteArray, e = .returned (.string s) ∧ s.size ≤ N) ∧ Cur w0 w' q A n c zs := by
  have hlit := Buf.lit (w0 := w0) (e := 5) hC.bel [] (by decide)
  have hCl := hC.below ((Below.refl _ w).alloc (Nat.le_refl _) (.cells #[] 5))
  have HB := Lib.hid (fun w h N h0 hN => belowC w0 w q A n c zs h N h0 hN)
  have HY := Lib.hid (fun w h => byteC w0 w q A n c zs h)
  have HC := Lib.hid (And.intro hCl hlit)
  clear hC hCl hlit
  go_enter Try.func98, Try.ntmps98
  go_wp2_with fail
  refine (HB.out _ HC.out.1 4 (by decide) (by decide)).mono ?_
  rintro e w1 ⟨⟨st, rfl, hst⟩, hC1, hg1⟩
  have H1 := Lib.hid (And.intro hC1 (HC.out.1.buf HC.out.2 (by decide) hg1))
  clear hC1 hg1
  go_wp2_with fail
  refine (HB.out _ H1.out.1 (N + 1) (by omega) (by omega)).mono ?_
  rintro e w2 ⟨⟨k0, rfl, hk0⟩, hC2, hg2⟩
  have H2 := Lib.hid (And.intro hC2 (H1.out.1.buf H1.out.2 (by decide) hg2))
  clear hC2 hg2
  go_wp2_with fail
  have hst0 : (0 : Int) ≤ (st : Int) := by omega
  go_loopw [5, 7, 8] (fun v i b wr => ∃ (k : Nat) (xs : List Int), i = .int .i64 (k : Int) ∧ k + xs.length ≤ N ∧ Buf w0 wr 5 v (xs.map (Value.int .u8)) ∧ Cur w0 wr q A n c zs) (fun _ i _ _ => (intOf i).toNat)
  case atStart => exact ⟨k0, [], rfl, by simp; omega, H2.out.2, H2.out.1⟩
  case round =>
    obtain ⟨k, xs, rfl, hk, hBr, hCr⟩ := hrel
    have hlen : (xs.map (Value.int .u8)).length ≤ 1000 := by rw [List.length_map]; omega
    by_cases hlt : 0 < k
    · have hlt' : (0 : Int) < (k : Int) := by omega
      have HR := Lib.hid (And.intro hCr hBr)
      have HL := Lib.hid hk
      have hk1 : k ≤ 1000 := by omega
      clear hCr hBr hk
      go_wp2_with fail
      refine (HY.out _ HR.out.1).mono ?_
      rintro e w3 ⟨⟨x, rfl, hx0, hx1⟩, hC3, hg3⟩
      have H3 := Lib.hid (And.intro hC3 (HR.out.1.buf HR.out.2 (by decide) hg3))
      clear hC3 hg3
      go_wp2_with (at_builtin; refine buf_append1 elU8 rfl _ _ rfl H3.out.2 rfl rfl rfl (by omega) ?_; intro v2 w2 hB2 hown hgrow; have hC2 := H3.out.1.app H3.out.2 (by decide) hgrow hB2.bel)
      all_goals
        refine ⟨⟨k - 1, _, by go_num, ?_, buf_snoc hB2, hC2⟩, ?_⟩
        · rw [List.length_append, List.length_singleton]; have h1 := HL.out; clear HR H3 hB2 hC2 hown hgrow; omega
        · simp [intOf]; omega
    · have hlt' : ¬ (0 : Int) < (k : Int) := by omega
      have hcv := buf_string (t := 35) (d := 9) elU8.sl Try.underlying5 Try.underlying9 hBr
      have hsz : (strOfNums xs).size ≤ N := by rw [strOfNums_size]; omega
      go_wp2_with fail
      go_ret
      exact ⟨⟨_, rfl, hsz⟩, hCr⟩
/-- One of a list just made. -/
theorem pickLitC (w0 w : World) (q : Nat) (A : Option Addr) (n c : Nat) (zs : List Int) (hC : Cur w0 w q A n c zs) (l : List Int) (L : Nat) (hL : l.length = L) (h0 : 0 < L) (hN : L ≤ 4294967296) :
    Calls Try.prog 75 #[.pointer (some ⟨q, 0, none⟩), .slice (some ⟨w.heap.size, 0, none⟩) L L] (w.alloc (.cells (l.map (Value.int .i64)).toArray 3)) fun e w' => (∃ x : Int, e = .returned (.int .i64 x) ∧ x ∈ l) ∧ Cur w0 w' q A n c zs ∧ w.grownBy w' (some q) := by
  have hB := Buf.lit (w0 := w0) (e := 3) hC.bel (l.map (Value.int .i64)) (by rw [List.length_map, hL]; unfold maxLen; omega)
  rw [List.length_map, hL] at hB
  refine (pickIntC w0 _ q A n c zs (hC.below ((Below.refl _ w).alloc (Nat.le_refl _) _)) _ w.heap.size L L l rfl hL h0 hN hB).mono ?_
  rintro e w' ⟨hx, h1, h2⟩
  exact ⟨hx, h1, gb_trans (World.grownBy_alloc w _ _) h2⟩
theorem wrap64_range (z : Int) : -9223372036854775808 ≤ wrap64 z ∧ wrap64 z ≤ 9223372036854775807 := by
  unfold wrap64; omega
end Go.Proofs.Ythbfockobnfomaa
