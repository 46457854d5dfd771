/-
  The reference's draws of texts of binary trees and of levels.
-/
import Derived.Test.YthbfockobnfomaaDraw6
import Derived.Test.YthbfockobnfomaaBinC
import Derived.Test.YthbfockobnfomaaBinM
namespace Go.Proofs.Ythbfockobnfomaa
open Go.RowKit
set_option maxRecDepth 100000 in
set_option maxHeartbeats 1000000 in
theorem any6C (w0 w : World) (q : Nat) (A : Option Addr) (n c : Nat) (zs : List Int) (hC : Cur w0 w q A n c zs) :
    Calls Try.prog 72 #[.pointer (some ⟨q, 0, none⟩)] w fun e w' => (∃ x : ByteArray, e = .returned (.string x) ∧ x.size ≤ 101) ∧ Cur w0 w' q A n c zs := by
  have HP := Lib.hid (pathC w0 w q A n c zs hC)
  have HB := Lib.hid (fun w h => belowC w0 w q A n c zs h 12 (by decide) (by decide))
  have HS := Lib.hid (fun w h s hs => spoilC w0 w q A n c zs h s hs)
  have HK := Lib.hid (fun w h l L hL h0 hN => pickC w0 w q A n c zs h l L hL h0 hN)
  clear hC
  go_enter Try.func72, Try.ntmps72
  go_wp2_with fail
  refine HP.out.mono ?_
  rintro e w1 ⟨⟨t, rfl, ht⟩, hC1⟩
  have HL := Lib.hid (fun w => (l6BinaryS t (by omega) w).mono fun e w' ⟨h1, n, h2⟩ => (⟨h1, by rw [h2]; exact below_drewN (Below.refl _ _) _⟩ : e = Ending.returned (.string (toB t.txt)) ∧ Below w.heap.size w w'))
  have hs : (toB t.txt).size ≤ 19 := by rw [toB_size, len_txt]; omega
  obtain ⟨p, hp⟩ : ∃ p, p = toB t.path := ⟨_, rfl⟩
  obtain ⟨s, hss⟩ : ∃ s, s = toB t.txt := ⟨_, rfl⟩
  rw [← hp] at HL ⊢
  rw [← hss] at hs HL
  have H0 := Lib.hid hC1
  clear hC1 hss hp
  go_wp2_with fail
  refine (HL.out _).mono ?_
  rintro e w1b ⟨rfl, hbx⟩
  have H1 := Lib.hid (H0.out.below hbx)
  clear hbx
  go_wp2_with fail
  refine (HB.out _ H1.out).mono ?_
  rintro e w2 ⟨⟨x, rfl, hx⟩, hC2, hg2⟩
  have H2 := Lib.hid hC2
  clear hC2 hg2
  go_wp2_with fail
  · refine (HS.out _ H2.out s (by omega)).mono ?_
    rintro e w3 ⟨⟨y, rfl, hy⟩, hC3⟩
    go_wp2_with fail
    go_ret
    exact ⟨⟨_, rfl, hy⟩, hC3⟩
  · refine (HK.out _ H2.out [⟨#[]⟩, ⟨#[46]⟩, ⟨#[40, 46, 46, 41]⟩, ⟨#[46, 46]⟩, ⟨#[40, 46, 41]⟩, ⟨#[40, 46, 46, 46, 41]⟩, ⟨#[40, 46, 46]⟩, ⟨#[40, 46, 46, 41, 41]⟩] 8 rfl (by decide) (by decide)).mono ?_
    rintro e w3 ⟨⟨y, rfl, hy⟩, hC3⟩
    have hy2 : y.size ≤ 101 := by
      simp only [List.mem_cons, List.not_mem_nil, or_false] at hy
      rcases hy with rfl | rfl | rfl | rfl | rfl | rfl | rfl | rfl <;> decide
    clear hy
    go_wp2_with fail
    go_ret
    exact ⟨⟨_, rfl, hy2⟩, hC3⟩
  · go_ret
    exact ⟨⟨_, rfl, by omega⟩, H2.out⟩
set_option maxRecDepth 100000 in
theorem drawPob (A : Option Addr) (n c : Nat) (zs : List Int) (w : World) (h : CodeAt w A n zs) :
    Calls Try.prog 39 #[.slice A n c] w fun e w' => (∃ s : ByteArray, e = .returned (.string s) ∧ s.size ≤ 101) ∧ Below w.heap.size w w' := by
  have HN := Lib.hid (newK A n c zs w h)
  clear h
  go_enter Try.func39, Try.ntmps39
  go_wp2_with fail
  refine HN.out.mono ?_
  rintro e w1 ⟨q, rfl, hC⟩
  go_wp2_with fail
  refine (any6C w w1 q A n c zs hC).mono ?_
  rintro e w2 ⟨⟨x, rfl, hx⟩, hC2⟩
  go_wp2_with fail
  go_ret
  exact ⟨⟨_, rfl, hx⟩, hC2.bel⟩
set_option maxRecDepth 100000 in
theorem drawParts (A : Option Addr) (n c : Nat) (zs : List Int) (w : World) (h : CodeAt w A n zs) :
    Calls Try.prog 41 #[.slice A n c] w fun e w' => (∃ s : ByteArray, e = .returned (.string s) ∧ s.size ≤ 101) ∧ Below w.heap.size w w' := by
  have HN := Lib.hid (newK A n c zs w h)
  clear h
  go_enter Try.func41, Try.ntmps41
  go_wp2_with fail
  refine HN.out.mono ?_
  rintro e w1 ⟨q, rfl, hC⟩
  go_wp2_with fail
  refine (any6C w w1 q A n c zs hC).mono ?_
  rintro e w2 ⟨⟨x, rfl, hx⟩, hC2⟩
  go_wp2_with fail
  go_ret
  exact ⟨⟨_, rfl, hx⟩, hC2.bel⟩
set_option maxRecDepth 100000 in
theorem drawMirB (A : Option Addr) (n c : Nat) (zs : List Int) (w : World) (h : CodeAt w A n zs) :
    Calls Try.prog 44 #[.slice A n c] w fun e w' => (∃ s : ByteArray, e = .returned (.string s) ∧ s.size ≤ 101) ∧ Below w.heap.size w w' := by
  have HN := Lib.hid (newK A n c zs w h)
  clear h
  go_enter Try.func44, Try.ntmps44
  go_wp2_with fail
  refine HN.out.mono ?_
  rintro e w1 ⟨q, rfl, hC⟩
  go_wp2_with fail
  refine (any6C w w1 q A n c zs hC).mono ?_
  rintro e w2 ⟨⟨x, rfl, hx⟩, hC2⟩
  go_wp2_with fail
  go_ret
  exact ⟨⟨_, rfl, hx⟩, hC2.bel⟩
theorem ll_small (s : ByteArray) (hs : s.size ≤ 1048576) : ∃ l : List Int, l.length ≤ 9 ∧ (∀ w, Calls Try.prog 34 #[.string s] w (RetI l w)) := by
  by_cases hB : Bin s
  · obtain ⟨t, rfl, hn⟩ := hB
    exact ⟨t.lev 0, by rw [len_lev]; omega, llS_yes t hn⟩
  · exact ⟨[], by simp, llS_no s hs hB⟩
set_option maxRecDepth 100000 in
set_option maxHeartbeats 1000000 in
theorem drawLev (A : Option Addr) (n c : Nat) (zs : List Int) (w : World) (h : CodeAt w A n zs) :
    Calls Try.prog 42 #[.slice A n c] w fun e w' => ∃ l : List Int, l.length ≤ 17 ∧ RetI l w e w' := by
  have HN := Lib.hid (newK A n c zs w h)
  clear h
  go_enter Try.func42, Try.ntmps42
  go_wp2_with fail
  refine HN.out.mono ?_
  rintro e w1 ⟨q, rfl, hC⟩
  go_wp2_with fail
  refine (any6C w w1 q A n c zs hC).mono ?_
  rintro e w2 ⟨⟨s, rfl, hs⟩, hC2⟩
  have HC2 := Lib.hid hC2
  clear hC2
  obtain ⟨l, hl, hS⟩ := ll_small s (by omega)
  have HS := Lib.hid hS
  clear hS
  go_wp2_with fail
  refine (HS.out _).mono ?_
  rintro e w3 ⟨A3, c3, rfl, hB3⟩
  have HB3 := Lib.hid (hB3.from_ HC2.out.bel)
  have HC3 := Lib.hid (HC2.out.below hB3.bel)
  clear hB3 HC2
  have HO := Lib.hid (onceC w _ q A n c zs HC3.out 4 (by decide) (by decide))
  by_cases h0 : l.length = 0
  · obtain rfl := List.eq_nil_of_length_eq_zero h0
    have h1 : ¬ (0 : Int) < (([] : List Int).length : Int) := by simp
    go_wp2_with fail
    go_ret
    exact ⟨[], by simp, A3, c3, rfl, HB3.out⟩
  · have h1 : (0 : Int) < (l.length : Int) := by omega
    obtain ⟨g, rfl⟩ := HB3.out.some_ (by omega)
    go_wp2_with fail
    refine HO.out.mono ?_
    rintro e w4 ⟨⟨b, rfl⟩, hC4, hg4⟩
    have HB4 := Lib.hid (HC3.out.buf HB3.out (by decide) hg4)
    have HC4 := Lib.hid hC4
    clear hC4 hg4 HO HC3 HB3
    cases b with
    | false =>
      go_wp2_with fail
      go_ret
      exact ⟨l, by omega, _, c3, rfl, HB4.out⟩
    | true =>
      go_wp2_with fail
      refine (belowC w _ q A n c zs HC4.out l.length (by omega) (by omega)).mono ?_
      rintro e w5 ⟨⟨x, rfl, hx⟩, hC5, hg5⟩
      have HB5 := Lib.hid (HC4.out.buf HB4.out (by decide) hg5)
      have HC5 := Lib.hid hC5
      clear hC5 hg5 HC4 HB4
      go_wp2_with fail
      refine (pickLitC w w5 q A n c zs HC5.out [0, 1, 2, 3, -1, 9] 6 rfl (by decide) (by decide)).mono ?_
      rintro e w6 ⟨⟨y, rfl, _⟩, hC6, hg6⟩
      have HB6 := Lib.hid (HC5.out.buf HB5.out (by decide) hg6)
      clear hC6 hg6 HC5 HB5
      obtain ⟨hc, hf, HS2, HL⟩ := buf_put HB6.out x y hx
      have hx0 : (0 : Int) ≤ (x : Int) := by omega
      have hx1 : (x : Int) < (l.length : Int) := by omega
      go_wp2_with fail
      go_ret
      exact ⟨l.set x y, by rw [List.length_set]; omega, some ⟨g, 0, none⟩, c3, HL.out, HS2.out⟩
end Go.Proofs.Ythbfockobnfomaa
