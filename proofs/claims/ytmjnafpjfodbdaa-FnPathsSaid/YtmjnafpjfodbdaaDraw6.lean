/-
  The reference's draws of words as arguments: any word, heights, two words.
-/
import Derived.Test.YtmjnafpjfodbdaaDraw5
import Derived.Test.YtmjnafpjfodbdaaDrawP
import Derived.Test.YtmjnafpjfodbdaaDraw3
import Derived.Test.YtmjnafpjfodbdaaHts
namespace Go.Proofs.Ytmjnafpjfodbdaa
open Go.RowKit
set_option maxRecDepth 100000 in
theorem pathC (w0 w : World) (q : Nat) (A : Option Addr) (n c : Nat) (zs : List Int) (hC : Cur w0 w q A n c zs) :
    Calls Try.prog 55 #[.pointer (some ⟨q, 0, none⟩)] w fun e w' => (∃ t : Tr, e = .returned (.string (toB t.path)) ∧ t.nodes ≤ 6) ∧ Cur w0 w' q A n c zs := by
  have HB := Lib.hid (belowC w0 w q A n c zs hC 7 (by decide) (by decide))
  have HD := Lib.hid (fun w h N hN => drawC w0 w q A n c zs h N hN)
  clear hC
  go_enter Try.func55, Try.ntmps55
  go_wp2_with fail
  refine HB.out.mono ?_
  rintro e w1 ⟨⟨x, rfl, hx⟩, hC1, hg1⟩
  go_wp2_with fail
  refine (HD.out _ hC1 x (by omega)).mono ?_
  rintro e w2 ⟨⟨t, rfl, ht⟩, hC2⟩
  go_wp2_with fail
  go_ret
  exact ⟨⟨t, rfl, ht⟩, hC2⟩
set_option maxRecDepth 100000 in
set_option maxHeartbeats 1000000 in
theorem anyC (w0 w : World) (q : Nat) (A : Option Addr) (n c : Nat) (zs : List Int) (hC : Cur w0 w q A n c zs) :
    Calls Try.prog 46 #[.pointer (some ⟨q, 0, none⟩)] w fun e w' => (∃ x : ByteArray, e = .returned (.string x) ∧ x.size ≤ 101) ∧ Cur w0 w' q A n c zs := by
  have HP := Lib.hid (pathC w0 w q A n c zs hC)
  have HB := Lib.hid (fun w h => belowC w0 w q A n c zs h 12 (by decide) (by decide))
  have HS := Lib.hid (fun w h s hs => spoilC w0 w q A n c zs h s hs)
  have HK := Lib.hid (fun w h l L hL h0 hN => pickC w0 w q A n c zs h l L hL h0 hN)
  clear hC
  go_enter Try.func46, Try.ntmps46
  go_wp2_with fail
  refine HP.out.mono ?_
  rintro e w1 ⟨⟨t, rfl, ht⟩, hC1⟩
  have hs : (toB t.path).size ≤ 12 := by rw [toB_size, len_path]; omega
  obtain ⟨s, hss⟩ : ∃ s, s = toB t.path := ⟨_, rfl⟩
  rw [← hss] at hs ⊢
  have H1 := Lib.hid hC1
  clear hC1 hss
  go_wp2_with fail
  refine (HB.out _ H1.out).mono ?_
  rintro e w2 ⟨⟨x, rfl, hx⟩, hC2, hg2⟩
  have H2 := Lib.hid hC2
  clear hC2 hg2
  go_wp2_with fail
  · refine (HS.out _ H2.out s (by omega)).mono ?_
    rintro e w3 ⟨⟨y, rfl, hy⟩, hC3⟩
    go_wp2_with fail
    go_ret
    exact ⟨⟨_, rfl, hy⟩, hC3⟩
  · refine (HK.out _ H2.out [⟨#[]⟩, ⟨#[100, 117]⟩, ⟨#[117]⟩, ⟨#[120]⟩, ⟨#[117, 117, 117, 117, 117, 117, 117, 117, 117, 100, 100, 100, 100, 100, 100, 100, 100, 100]⟩, ⟨#[117, 117, 117, 117, 117, 117, 117, 117, 100, 100, 100, 100, 100, 100, 100, 100]⟩] 6 rfl (by decide) (by decide)).mono ?_
    rintro e w3 ⟨⟨y, rfl, hy⟩, hC3⟩
    have hy2 : y.size ≤ 101 := by
      simp only [List.mem_cons, List.not_mem_nil, or_false] at hy
      rcases hy with rfl | rfl | rfl | rfl | rfl | rfl <;> decide
    clear hy
    go_wp2_with fail
    go_ret
    exact ⟨⟨_, rfl, hy2⟩, hC3⟩
  · go_ret
    exact ⟨⟨_, rfl, by omega⟩, H2.out⟩
set_option maxRecDepth 100000 in
theorem drawHeights (A : Option Addr) (n c : Nat) (zs : List Int) (w : World) (h : CodeAt w A n zs) :
    Calls Try.prog 17 #[.slice A n c] w fun e w' => (∃ s : ByteArray, e = .returned (.string s) ∧ s.size ≤ 101) ∧ Below w.heap.size w w' := by
  have HN := Lib.hid (newK A n c zs w h)
  clear h
  go_enter Try.func17, Try.ntmps17
  go_wp2_with fail
  refine HN.out.mono ?_
  rintro e w1 ⟨q, rfl, hC⟩
  go_wp2_with fail
  refine (anyC w w1 q A n c zs hC).mono ?_
  rintro e w2 ⟨⟨x, rfl, hx⟩, hC2⟩
  go_wp2_with fail
  go_ret
  exact ⟨⟨_, rfl, hx⟩, hC2.bel⟩
set_option maxRecDepth 100000 in
theorem drawJoin (A : Option Addr) (n c : Nat) (zs : List Int) (w : World) (h : CodeAt w A n zs) :
    Calls Try.prog 35 #[.slice A n c] w fun e w' => (∃ a b : ByteArray, e = .returned (.tuple #[.string a, .string b]) ∧ a.size ≤ 101 ∧ b.size ≤ 101) ∧ Below w.heap.size w w' := by
  have HN := Lib.hid (newK A n c zs w h)
  clear h
  go_enter Try.func35, Try.ntmps35
  go_wp2_with fail
  refine HN.out.mono ?_
  rintro e w1 ⟨q, rfl, hC⟩
  go_wp2_with fail
  refine (anyC w w1 q A n c zs hC).mono ?_
  rintro e w2 ⟨⟨x, rfl, hx⟩, hC2⟩
  have HC2 := Lib.hid hC2
  clear hC2
  go_wp2_with fail
  refine (anyC w w2 q A n c zs HC2.out).mono ?_
  rintro e w3 ⟨⟨y, rfl, hy⟩, hC3⟩
  go_wp2_with fail
  go_ret2
  exact ⟨⟨_, _, rfl, hx, hy⟩, hC3.bel⟩
/-- A store into a row of our own. -/
theorem buf_put {w0 w : World} {g c : Nat} {l : List Int} (h : Buf w0 w 3 (.slice (some ⟨g, 0, none⟩) l.length c) (l.map (Value.int .i64))) (x : Nat) (y : Int) (hx : x < l.length) :
    w.cell? ⟨g, x, none⟩ = some (.int .i64 (l.getD x 0)) ∧ w.frozen? ⟨g, x, none⟩ = false ∧ Hid (Buf w0 (w.setCell ⟨g, x, none⟩ (.int .i64 y)) 3 (.slice (some ⟨g, 0, none⟩) (l.set x y).length c) ((l.set x y).map (Value.int .i64))) ∧ Hid (Ending.returned (.slice (some ⟨g, 0, none⟩) l.length c) = .returned (.slice (some ⟨g, 0, none⟩) (l.set x y).length c)) := by
  refine ⟨?_, h.frozenAt x, ?_, ?_⟩
  · rw [h.cellAt x hx]; simp [List.getD, hx]
  · have := h.set x (.int .i64 y)
    rw [List.length_set, List.map_set]
    exact this
  · rw [List.length_set]; rfl
set_option maxRecDepth 100000 in
set_option maxHeartbeats 1000000 in
theorem drawPoh (A : Option Addr) (n c : Nat) (zs : List Int) (w : World) (h : CodeAt w A n zs) :
    Calls Try.prog 34 #[.slice A n c] w fun e w' => ∃ l : List Int, l.length ≤ 17 ∧ RetI l w e w' := by
  have HN := Lib.hid (newK A n c zs w h)
  clear h
  go_enter Try.func34, Try.ntmps34
  go_wp2_with fail
  refine HN.out.mono ?_
  rintro e w1 ⟨q, rfl, hC⟩
  go_wp2_with fail
  refine (anyC w w1 q A n c zs hC).mono ?_
  rintro e w2 ⟨⟨s, rfl, hs⟩, hC2⟩
  have HC2 := Lib.hid hC2
  clear hC2
  have hl : (htsV s.data.toList).length ≤ 17 := by
    cases hd : dyck s.data.toList with
    | false => rw [htsV_no hd]; simp
    | true => rw [htsV_yes hd, len_hl]; have := dyck_len hd; omega
  have HS := Lib.hid (fun w => heightsOfS s w (by omega))
  obtain ⟨l, hll⟩ : ∃ l, l = htsV s.data.toList := ⟨_, rfl⟩
  rw [← hll] at hl HS
  clear hll
  go_wp2_with fail
  refine (HS.out _).mono ?_
  rintro e w3 ⟨A3, c3, rfl, hB3⟩
  have HB3 := Lib.hid (hB3.from_ HC2.out.bel)
  have HC3 := Lib.hid (HC2.out.below hB3.bel)
  clear hB3 HC2
  have HO := Lib.hid (onceC w _ q A n c zs HC3.out 5 (by decide) (by decide))
  by_cases h0 : l.length = 0
  · obtain rfl := List.eq_nil_of_length_eq_zero h0
    have h1 : ¬ (0 : Int) < (([] : List Int).length : Int) := by simp
    go_wp2_with fail
    go_ret
    exact ⟨[], by simp, A3, c3, rfl, HB3.out⟩
  · have h1 : (0 : Int) < (l.length : Int) := by omega
    obtain ⟨g, rfl⟩ := HB3.out.some_ (by omega)
    go_wp2_with fail
    refine HO.out.mono ?_
    rintro e w4 ⟨⟨b, rfl⟩, hC4, hg4⟩
    have HB4 := Lib.hid (HC3.out.buf HB3.out (by decide) hg4)
    have HC4 := Lib.hid hC4
    clear hC4 hg4 HO HC3 HB3
    cases b with
    | false =>
      go_wp2_with fail
      go_ret
      exact ⟨l, hl, _, c3, rfl, HB4.out⟩
    | true =>
      go_wp2_with fail
      refine (belowC w _ q A n c zs HC4.out l.length (by omega) (by omega)).mono ?_
      rintro e w5 ⟨⟨x, rfl, hx⟩, hC5, hg5⟩
      have HB5 := Lib.hid (HC4.out.buf HB4.out (by decide) hg5)
      have HC5 := Lib.hid hC5
      clear hC5 hg5 HC4 HB4
      go_wp2_with fail
      refine (pickLitC w w5 q A n c zs HC5.out [0, 1, -1, 9, 9223372036854775807, -9223372036854775808] 6 rfl (by decide) (by decide)).mono ?_
      rintro e w6 ⟨⟨y, rfl, _⟩, hC6, hg6⟩
      have HB6 := Lib.hid (HC5.out.buf HB5.out (by decide) hg6)
      clear hC6 hg6 HC5 HB5
      obtain ⟨hc, hf, HS, HL⟩ := buf_put HB6.out x y hx
      have hx0 : (0 : Int) ≤ (x : Int) := by omega
      have hx1 : (x : Int) < (l.length : Int) := by omega
      go_wp2_with fail
      go_ret
      exact ⟨l.set x y, by rw [List.length_set]; exact hl, some ⟨g, 0, none⟩, c3, HL.out, HS.out⟩
end Go.Proofs.Ytmjnafpjfodbdaa
