/-
  The reference's draws of rows of parents.
-/
import Derived.Test.YtndehfkamfmmeaaDraw6
import Derived.Test.YtndehfkamfmmeaaPlO
namespace Go.Proofs.Ytndehfkamfmmeaa
open Go.RowKit
set_option maxRecDepth 100000 in
set_option maxHeartbeats 1000000 in
theorem any5C (w0 w : World) (q : Nat) (A : Option Addr) (n c : Nat) (zs : List Int) (hC : Cur w0 w q A n c zs) :
    Calls Try.prog 72 #[.pointer (some ⟨q, 0, none⟩)] w fun e w' => ∃ l : List Int, l.length ≤ 17 ∧ (∃ B d, e = .returned (.slice B l.length d) ∧ Buf w0 w' 3 (.slice B l.length d) (l.map (Value.int .i64))) ∧ Cur w0 w' q A n c zs := by
  have HP := Lib.hid (pathC w0 w q A n c zs hC)
  clear hC
  go_enter Try.func72, Try.ntmps72
  go_wp2_with fail
  refine HP.out.mono ?_
  rintro e w1 ⟨⟨t, rfl, ht⟩, hC1⟩
  have hs : (toB t.path).size ≤ 12 := by rw [toB_size, len_path]; omega
  obtain ⟨s, hss⟩ : ∃ s, s = toB t.path := ⟨_, rfl⟩
  rw [← hss] at hs ⊢
  have HC2 := Lib.hid hC1
  clear hC1 hss
  have hl : (planeV s.data.toList).length ≤ 9 := planeV_len _
  have HS := Lib.hid (fun w => planeOfS s w (by omega))
  obtain ⟨l, hll⟩ : ∃ l, l = planeV s.data.toList := ⟨_, rfl⟩
  obtain ⟨is, his⟩ : ∃ b, b = dyck s.data.toList := ⟨_, rfl⟩
  rw [← hll] at hl HS
  rw [← his] at HS
  clear hll his
  go_wp2_with fail
  refine (HS.out _).mono ?_
  rintro e w3 ⟨A3, c3, rfl, hB3⟩
  have HB3 := Lib.hid (hB3.from_ HC2.out.bel)
  have HC3 := Lib.hid (HC2.out.below hB3.bel)
  clear hB3 HC2
  go_wp2_with fail
  refine (onceC w0 _ q A n c zs HC3.out 6 (by decide) (by decide)).mono ?_
  rintro e w4 ⟨⟨b, rfl⟩, hC4, hg4⟩
  have HB4 := Lib.hid (HC3.out.buf HB3.out (by decide) hg4)
  have HC4 := Lib.hid hC4
  clear hC4 hg4 HC3 HB3
  cases b with
  | false =>
    go_wp2_with fail
    go_ret
    exact ⟨l, by omega, ⟨_, c3, rfl, HB4.out⟩, HC4.out⟩
  | true =>
    by_cases h0 : l.length = 0
    · obtain rfl := List.eq_nil_of_length_eq_zero h0
      have h1 : ¬ (0 : Int) < (([] : List Int).length : Int) := by simp
      go_wp2_with fail
      go_ret
      exact ⟨[], by simp, ⟨_, c3, rfl, HB4.out⟩, HC4.out⟩
    · have h1 : (0 : Int) < (l.length : Int) := by omega
      obtain ⟨g, rfl⟩ := HB4.out.some_ (by omega)
      go_wp2_with fail
      refine (belowC w0 _ q A n c zs HC4.out l.length (by omega) (by omega)).mono ?_
      rintro e w5 ⟨⟨x, rfl, hx⟩, hC5, hg5⟩
      have HB5 := Lib.hid (HC4.out.buf HB4.out (by decide) hg5)
      have HC5 := Lib.hid hC5
      clear hC5 hg5 HC4 HB4
      go_wp2_with fail
      refine (pickLitC w0 w5 q A n c zs HC5.out [-1, 0, 1, 3, 9223372036854775807] 5 rfl (by decide) (by decide)).mono ?_
      rintro e w6 ⟨⟨y, rfl, _⟩, hC6, hg6⟩
      have HB6 := Lib.hid (HC5.out.buf HB5.out (by decide) hg6)
      have HC6 := Lib.hid hC6
      clear hC6 hg6 HC5 HB5
      obtain ⟨hc, hf, HS2, HL⟩ := buf_put HB6.out x y hx
      have HC7 := Lib.hid (HC6.out.app HB6.out (by decide) (gb_set _ g x (.int .i64 y)) HS2.out.bel)
      have hx0 : (0 : Int) ≤ (x : Int) := by omega
      have hx1 : (x : Int) < (l.length : Int) := by omega
      go_wp2_with fail
      go_ret
      exact ⟨l.set x y, by rw [List.length_set]; omega, ⟨some ⟨g, 0, none⟩, c3, HL.out, HS2.out⟩, HC7.out⟩
set_option maxRecDepth 100000 in
theorem drawPop (A : Option Addr) (n c : Nat) (zs : List Int) (w : World) (h : CodeAt w A n zs) :
    Calls Try.prog 41 #[.slice A n c] w fun e w' => ∃ l : List Int, l.length ≤ 17 ∧ RetI l w e w' := by
  have HN := Lib.hid (newK A n c zs w h)
  clear h
  go_enter Try.func41, Try.ntmps41
  go_wp2_with fail
  refine HN.out.mono ?_
  rintro e w1 ⟨q, rfl, hC⟩
  go_wp2_with fail
  refine (any5C w w1 q A n c zs hC).mono ?_
  rintro e w2 ⟨l, hl, ⟨A2, c2, rfl, hB⟩, hC2⟩
  have HL := Lib.hid hl
  clear hl
  go_wp2_with fail
  go_ret
  exact ⟨l, HL.out, A2, c2, rfl, hB⟩
set_option maxRecDepth 100000 in
theorem drawMir (A : Option Addr) (n c : Nat) (zs : List Int) (w : World) (h : CodeAt w A n zs) :
    Calls Try.prog 43 #[.slice A n c] w fun e w' => ∃ l : List Int, l.length ≤ 17 ∧ RetI l w e w' := by
  have HN := Lib.hid (newK A n c zs w h)
  clear h
  go_enter Try.func43, Try.ntmps43
  go_wp2_with fail
  refine HN.out.mono ?_
  rintro e w1 ⟨q, rfl, hC⟩
  go_wp2_with fail
  refine (any5C w w1 q A n c zs hC).mono ?_
  rintro e w2 ⟨l, hl, ⟨A2, c2, rfl, hB⟩, hC2⟩
  have HL := Lib.hid hl
  clear hl
  go_wp2_with fail
  go_ret
  exact ⟨l, HL.out, A2, c2, rfl, hB⟩
set_option maxRecDepth 100000 in
theorem drawCh (A : Option Addr) (n c : Nat) (zs : List Int) (w : World) (h : CodeAt w A n zs) :
    Calls Try.prog 42 #[.slice A n c] w fun e w' => ∃ (l : List Int) (v : Int), l.length ≤ 17 ∧ ∃ B d, e = .returned (.tuple #[.slice B l.length d, .int .i64 v]) ∧ Buf w w' 3 (.slice B l.length d) (l.map (Value.int .i64)) := by
  have HN := Lib.hid (newK A n c zs w h)
  clear h
  go_enter Try.func42, Try.ntmps42
  go_wp2_with fail
  refine HN.out.mono ?_
  rintro e w1 ⟨q, rfl, hC⟩
  go_wp2_with fail
  refine (any5C w w1 q A n c zs hC).mono ?_
  rintro e w2 ⟨l, hl, ⟨A2, c2, rfl, hB⟩, hC2⟩
  have HL := Lib.hid hl
  have HB := Lib.hid hB
  have HC2 := Lib.hid hC2
  clear hl hB hC2
  go_wp2_with fail
  refine (belowC w w2 q A n c zs HC2.out 8 (by decide) (by decide)).mono ?_
  rintro e w3 ⟨⟨y, rfl, hy⟩, hC3, hg3⟩
  have HB3 := Lib.hid (HC2.out.buf HB.out (by decide) hg3)
  clear hC3 hg3
  go_wp2_with fail
  go_ret2
  exact ⟨l, _, HL.out, A2, c2, rfl, HB3.out⟩
end Go.Proofs.Ytndehfkamfmmeaa
