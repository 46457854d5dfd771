/-
  The cursor of the reference's draws: made, and read byte by byte. What is drawn is bounded; nothing else is said of it.
-/
import Derived.Test.YthbfockobnfomaaPlH
import Derived.OneCell
import Derived.Laws.BitsLemmas
namespace Go.Proofs.Ythbfockobnfomaa
open Go.RowKit
/-- The cursor at block q: the code's row, a place, a number. -/
structure Cur (w0 w : World) (q : Nat) (A : Option Addr) (n c : Nat) (zs : List Int) : Prop where
  row : Rd .u8 w0 A zs
  len : zs.length = n
  small : n ≤ 1048576
  bytes : ∀ x ∈ zs, (Lit.int .u8 x).wf = true
  lo : w0.heap.size ≤ q
  bel : Below w0.heap.size w0 w
  at_ : ∃ i h : Int, 0 ≤ i ∧ i ≤ 1048576 ∧ w.heap[q]? = some (.cells #[.slice A n c, .int .i64 i, .int .i64 h] 80 (0, 0))
theorem Cur.new {w0 w : World} {A : Option Addr} {n c : Nat} {zs : List Int} (hrow : Rd .u8 w0 A zs) (hl : zs.length = n) (hn : n ≤ 1048576) (hz : ∀ x ∈ zs, (Lit.int .u8 x).wf = true) (hb : Below w0.heap.size w0 w) (x : Int) :
    Cur w0 (w.alloc (.cells #[.slice A n c, .int .i64 0, .int .i64 x] 80)) w.heap.size A n c zs :=
  ⟨hrow, hl, hn, hz, hb.size, hb.alloc hb.size _, 0, x, by decide, by decide, heap_alloc_new w _⟩
theorem i64_and_le (n : Int) (m : Nat) (hm : m < 9223372036854775808) : 0 ≤ bits .and .i64 n (m : Int) ∧ bits .and .i64 n (m : Int) ≤ (m : Int) := by
  have hb : (BitVec.ofInt 64 (m : Int)).toNat = m := by rw [BitVec.toNat_ofInt]; omega
  have hx : (BitVec.ofInt 64 n).toNat &&& m ≤ m := Nat.and_le_right
  have h : bits .and .i64 n (m : Int) = (((BitVec.ofInt 64 n).toNat &&& m : Nat) : Int) := by
    show IntKind.i64.wrap ((BitVec.ofInt 64 n &&& BitVec.ofInt 64 (m : Int)).toNat : Int) = _
    rw [BitVec.toNat_and, hb, IntKind.wrap_i64]
    omega
  rw [h]
  omega
set_option maxRecDepth 100000 in
set_option maxHeartbeats 1000000 in
theorem newC (A : Option Addr) (n c : Nat) (zs : List Int) (w0 w : World) (hrow : Rd .u8 w0 A zs) (hl : zs.length = n) (hn : n ≤ 1048576) (hz : ∀ x ∈ zs, (Lit.int .u8 x).wf = true) (hb : Below w0.heap.size w0 w) :
    Calls Try.prog 73 #[.slice A n c] w fun e w' => ∃ q, e = .returned (.pointer (some ⟨q, 0, none⟩)) ∧ Cur w0 w' q A n c zs ∧ Below w.heap.size w w' := by
  have HR := Lib.hid (hrow.keep hb)
  have HZ := Lib.hid hz
  have HL := Lib.hid hl
  have HC := Lib.hid (fun wr (hbr : Below w.heap.size w wr) (x : Int) => Cur.new (c := c) hrow hl hn hz (below_then hb hbr) x)
  clear hrow hl hz
  go_enter Try.func73, Try.ntmps73
  go_wp2_with fail
  go_loopw [4, 3] (fun i h wr => ∃ (k : Nat) (x : Int), i = .int .i64 (k : Int) ∧ k ≤ n ∧ k ≤ 4000 ∧ h = .int .i64 x ∧ 0 ≤ x ∧ x ≤ 1073741823 ∧ Below w.heap.size w wr) (fun i _ _ => n - (intOf i).toNat)
  case atStart => exact ⟨0, _, rfl, by omega, by omega, rfl, by omega, by omega, Below.refl _ _⟩
  case round =>
    obtain ⟨k, x, rfl, hk, hk4, rfl, hx0, hx1, hbr⟩ := hrel
    by_cases hlt : k < n ∧ k < 4000
    · obtain ⟨b, o, rfl⟩ := HR.out.form (by rw [HL.out]; omega)
      have hc := (HR.out.keep hbr).at_ k (by rw [HL.out]; exact hlt.1)
      rw [List.getD_eq_getElem?_getD] at hc
      obtain ⟨y, hy⟩ : ∃ y, y = zs[k]?.getD 0 := ⟨_, rfl⟩
      have hlt1 : (k : Int) < (n : Int) := by omega
      have hlt2 : (k : Int) < 4000 := by omega
      have hk0 : (0 : Int) ≤ (k : Int) := by omega
      rw [← hy] at hc
      go_wp2_with fail
      refine ⟨⟨k + 1, _, by go_num, by omega, by omega, rfl, (i64_and_le _ 1073741823 (by decide)).1, (i64_and_le _ 1073741823 (by decide)).2, hbr⟩, ?_⟩
      simp [intOf]; omega
    · by_cases h1 : k < n
      · have hlt1 : (k : Int) < (n : Int) := by omega
        have hlt2 : ¬ (k : Int) < 4000 := by omega
        go_wp2_with fail
        go_ret
        exact ⟨_, rfl, HC.out wr hbr x, hbr.alloc hbr.size _⟩
      · have hlt1 : ¬ (k : Int) < (n : Int) := by omega
        go_wp2_with fail
        go_ret
        exact ⟨_, rfl, HC.out wr hbr x, hbr.alloc hbr.size _⟩
theorem gb_trans {w a b : World} {q : Nat} (h : w.grownBy a (some q)) (k : a.grownBy b (some q)) : w.grownBy b (some q) :=
  ⟨k.os.trans h.os, k.tape.trans h.tape, k.output.trans h.output, Nat.le_trans h.size k.size, fun i hi hne => (k.block i (Nat.lt_of_lt_of_le hi h.size) hne).trans (h.block i hi hne)⟩
theorem gb_set (w : World) (q j : Nat) (u : Value) : w.grownBy (w.setCell ⟨q, j, none⟩ u) (some q) :=
  ⟨rfl, rfl, rfl, by simp [World.setCell], fun k _ hk2 => Below.heap_setCell _ _ _ _ (fun e => hk2 (by rw [e]))⟩
theorem gb_below {w w' : World} {q B : Nat} (h : w.grownBy w' (some q)) (hq : B ≤ q) (hB : B ≤ w.heap.size) : Below B w w' :=
  (Below.refl B w).grown h hB (fun k e => by cases e; exact hq)
/-- The cursor in the midst of a step. -/
structure Mid (w w' : World) (q : Nat) (a : Value) (i h : Int) : Prop where
  hq : w'.heap[q]? = some (.cells #[a, .int .i64 i, .int .i64 h] 80 (0, 0))
  gb : w.grownBy w' (some q)
theorem Mid.set2 {w w' : World} {q : Nat} {a : Value} {i h : Int} (m : Mid w w' q a i h) (h' : Int) : Mid w (w'.setCell ⟨q, 2, none⟩ (.int .i64 h')) q a i h' :=
  ⟨by show (w'.heap.modify q _)[q]? = _; rw [Array.getElem?_modify, if_pos rfl, m.hq]; rfl, gb_trans m.gb (gb_set _ _ _ _)⟩
theorem Mid.set1 {w w' : World} {q : Nat} {a : Value} {i h : Int} (m : Mid w w' q a i h) (i' : Int) : Mid w (w'.setCell ⟨q, 1, none⟩ (.int .i64 i')) q a i' h :=
  ⟨by show (w'.heap.modify q _)[q]? = _; rw [Array.getElem?_modify, if_pos rfl, m.hq]; rfl, gb_trans m.gb (gb_set _ _ _ _)⟩
theorem Mid.drewN {w w' : World} {q : Nat} {a : Value} {i h : Int} (m : Mid w w' q a i h) (k : Nat) : Mid w (w'.drewN k) q a i h := ⟨m.hq, ⟨m.gb.os, m.gb.tape, m.gb.output, m.gb.size, m.gb.block⟩⟩
theorem Mid.c0 {w w' : World} {q : Nat} {a : Value} {i h : Int} (m : Mid w w' q a i h) : w'.cell? ⟨q, 0, none⟩ = some a := by unfold World.cell?; rw [m.hq]; rfl
theorem Mid.c1 {w w' : World} {q : Nat} {a : Value} {i h : Int} (m : Mid w w' q a i h) : w'.cell? ⟨q, 1, none⟩ = some (.int .i64 i) := by unfold World.cell?; rw [m.hq]; rfl
theorem Mid.c2 {w w' : World} {q : Nat} {a : Value} {i h : Int} (m : Mid w w' q a i h) : w'.cell? ⟨q, 2, none⟩ = some (.int .i64 h) := by unfold World.cell?; rw [m.hq]; rfl
theorem Mid.f {w w' : World} {q : Nat} {a : Value} {i h : Int} (m : Mid w w' q a i h) (j : Nat) : w'.frozen? ⟨q, j, none⟩ = false := by simp [World.frozen?, m.hq]
theorem Cur.step {w0 w w' : World} {q : Nat} {A : Option Addr} {n c : Nat} {zs : List Int} (hC : Cur w0 w q A n c zs) {i h : Int} (m : Mid w w' q (.slice A n c) i h) (h0 : 0 ≤ i) (h1 : i ≤ 1048576) : Cur w0 w' q A n c zs :=
  ⟨hC.row, hC.len, hC.small, hC.bytes, hC.lo, hC.bel.grown m.gb hC.bel.size (fun k e => by cases e; exact hC.lo), i, h, h0, h1, m.hq⟩
set_option maxRecDepth 100000 in
set_option maxHeartbeats 1000000 in
theorem byteC (w0 w : World) (q : Nat) (A : Option Addr) (n c : Nat) (zs : List Int) (hC : Cur w0 w q A n c zs) :
    Calls Try.prog 92 #[.pointer (some ⟨q, 0, none⟩)] w fun e w' => (∃ x : Int, e = .returned (.int .i64 x) ∧ 0 ≤ x ∧ x ≤ 255) ∧ Cur w0 w' q A n c zs ∧ w.grownBy w' (some q) := by
  obtain ⟨i, h, hi0, hi1, hq⟩ := hC.at_
  have m0 : Mid w w q (.slice A n c) i h := ⟨hq, World.grownBy.refl _ _⟩
  have HC := Lib.hid hC
  have hc2 := m0.c2
  have hf2 := m0.f 2
  have HM := Lib.hid m0
  have hn := hC.small
  obtain ⟨k, rfl⟩ : ∃ k : Nat, i = k := ⟨i.toNat, by omega⟩
  have hb : k < n → ∃ b o y, A = some ⟨b, o, none⟩ ∧ Hid (∀ w' i' h', Mid w w' q (.slice A n c) i' h' → w'.cell? ⟨b, o + k, none⟩ = some (.int .u8 y)) := by
    intro hlt
    obtain ⟨b, o, rfl⟩ := hC.row.form (by rw [hC.len]; omega)
    exact ⟨b, o, _, rfl, Lib.hid fun w' i' h' m => (hC.row.keep (hC.bel.grown m.gb hC.bel.size (fun k e => by cases e; exact hC.lo))).at_ k (by rw [hC.len]; exact hlt)⟩
  clear hC hq m0
  by_cases hlt : k < n
  · obtain ⟨b, o, y, rfl, HB⟩ := hb hlt
    have hlt1 : (k : Int) < (n : Int) := by omega
    go_enter Try.func92, Try.ntmps92
    go_wp2_with fail
    obtain ⟨h', hh'⟩ : ∃ h', h' = wrap64 (wrap64 (h * 6364136223846793005) + 1442695040888963407) := ⟨_, rfl⟩
    rw [← hh']
    have m1 := HM.out.set2 h'
    obtain ⟨W1, hW1⟩ : ∃ W1, W1 = w.setCell ⟨q, 2, none⟩ (.int .i64 h') := ⟨_, rfl⟩
    rw [← hW1] at m1 ⊢
    have d0 := m1.c0
    have d1 := m1.c1
    have d2 := m1.c2
    have d3 := HB.out _ _ _ m1
    have d4 := m1.f 1
    clear hW1 hh' hc2 hf2
    have HM1 := Lib.hid m1
    clear m1
    go_quiet (fail)
    go_wp2_with fail
    go_quiet (fail)
    go_wp2_with fail
    go_quiet (fail)
    go_wp2_with fail
    go_ret
    exact ⟨⟨_, rfl, i64_and_le _ 255 (by decide)⟩, HC.out.step ((HM1.out.drewN _).set1 ((k : Int) + 1)) (by omega) (by omega), ((HM1.out.drewN _).set1 ((k : Int) + 1)).gb⟩
  · have hlt1 : ¬ (k : Int) < (n : Int) := by omega
    go_enter Try.func92, Try.ntmps92
    go_wp2_with fail
    obtain ⟨h', hh'⟩ : ∃ h', h' = wrap64 (wrap64 (h * 6364136223846793005) + 1442695040888963407) := ⟨_, rfl⟩
    rw [← hh']
    have m1 := HM.out.set2 h'
    obtain ⟨W1, hW1⟩ : ∃ W1, W1 = w.setCell ⟨q, 2, none⟩ (.int .i64 h') := ⟨_, rfl⟩
    rw [← hW1] at m1 ⊢
    have d0 := m1.c0
    have d1 := m1.c1
    have d2 := m1.c2
    clear hW1 hh' hc2 hf2 hb
    have HM1 := Lib.hid m1
    clear m1
    go_quiet (fail)
    go_wp2_with fail
    go_quiet (fail)
    go_wp2_with fail
    go_ret
    exact ⟨⟨_, rfl, i64_and_le _ 255 (by decide)⟩, HC.out.step ((HM1.out.drewN _).drewN _) (by omega) (by omega), ((HM1.out.drewN _).drewN _).gb⟩
theorem mod_nat (x : Int) (N : Nat) (hx : 0 ≤ x) (h0 : 0 < N) : ∃ r : Nat, x % (N : Int) = (r : Int) ∧ r < N := by
  obtain ⟨k, rfl⟩ : ∃ k : Nat, x = k := ⟨x.toNat, by omega⟩
  exact ⟨k % N, by norm_cast, Nat.mod_lt _ h0⟩
set_option maxRecDepth 100000 in
set_option maxHeartbeats 1000000 in
theorem belowC (w0 w : World) (q : Nat) (A : Option Addr) (n c : Nat) (zs : List Int) (hC : Cur w0 w q A n c zs) (N : Nat) (h0 : 0 < N) (hN : N ≤ 4294967296) :
    Calls Try.prog 76 #[.pointer (some ⟨q, 0, none⟩), .int .i64 (N : Int)] w fun e w' => (∃ x : Nat, e = .returned (.int .i64 (x : Int)) ∧ x < N) ∧ Cur w0 w' q A n c zs ∧ w.grownBy w' (some q) := by
  have HB := Lib.hid (fun w h => byteC w0 w q A n c zs h)
  have HC := Lib.hid hC
  clear hC
  have hz : ¬ (N : Int) ≤ 0 := by omega
  by_cases h : N ≤ 256
  · have hle : (N : Int) ≤ 256 := by omega
    have hne : ((N : Int) == 0) = false := by rw [beq_eq_false_iff_ne]; omega
    go_enter Try.func76, Try.ntmps76
    go_wp2_with fail
    refine (HB.out _ HC.out).mono ?_
    rintro e w1 ⟨⟨x, rfl, hx0, hx1⟩, hC1, hg1⟩
    have H1 := Lib.hid (And.intro hC1 hg1)
    clear hC1 hg1
    go_wp2_with fail
    go_ret
    obtain ⟨r, hr, hr1⟩ := mod_nat x N hx0 h0
    exact ⟨⟨r, by rw [← hr]; rfl, hr1⟩, H1.out.1, H1.out.2⟩
  · have hle : ¬ (N : Int) ≤ 256 := by omega
    have hne : ((N : Int) == 0) = false := by rw [beq_eq_false_iff_ne]; omega
    go_enter Try.func76, Try.ntmps76
    go_wp2_with fail
    refine (HB.out _ HC.out).mono ?_
    rintro e w1 ⟨⟨x1, rfl, hx0, hx1⟩, hC1, hg1⟩
    have H1 := Lib.hid (And.intro hC1 hg1)
    clear hC1 hg1
    go_wp2_with fail
    refine (HB.out _ H1.out.1).mono ?_
    rintro e w2 ⟨⟨x2, rfl, hy0, hy1⟩, hC2, hg2⟩
    have H2 := Lib.hid (And.intro hC2 (gb_trans H1.out.2 hg2))
    clear hC2 hg2
    go_wp2_with fail
    refine (HB.out _ H2.out.1).mono ?_
    rintro e w3 ⟨⟨x3, rfl, hz0, hz1⟩, hC3, hg3⟩
    have H3 := Lib.hid (And.intro hC3 (gb_trans H2.out.2 hg3))
    clear hC3 hg3
    go_wp2_with fail
    refine (HB.out _ H3.out.1).mono ?_
    rintro e w4 ⟨⟨x4, rfl, hu0, hu1⟩, hC4, hg4⟩
    have H4 := Lib.hid (And.intro hC4 (gb_trans H3.out.2 hg4))
    clear hC4 hg4
    go_wp2_with fail
    go_ret
    obtain ⟨r, hr, hr1⟩ := mod_nat (x1 * 16777216 + x2 * 65536 + x3 * 256 + x4) N (by omega) h0
    exact ⟨⟨r, by rw [← hr]; rfl, hr1⟩, H4.out.1, H4.out.2⟩
end Go.Proofs.Ythbfockobnfomaa
