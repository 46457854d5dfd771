/-
  The reference's draws of words as arguments: any word, heights, two words.
-/
import Derived.Test.YthbfockobnfomaaDraw5
import Derived.Test.YthbfockobnfomaaDrawP
import Derived.Test.YthbfockobnfomaaDraw3
import Derived.Test.YthbfockobnfomaaHts
namespace Go.Proofs.Ythbfockobnfomaa
open Go.RowKit
set_option maxRecDepth 100000 in
theorem pathC (w0 w : World) (q : Nat) (A : Option Addr) (n c : Nat) (zs : List Int) (hC : Cur w0 w q A n c zs) :
    Calls Try.prog 89 #[.pointer (some ⟨q, 0, none⟩)] w fun e w' => (∃ t : Tr, e = .returned (.string (toB t.path)) ∧ t.nodes ≤ 6) ∧ Cur w0 w' q A n c zs := by
  have HB := Lib.hid (belowC w0 w q A n c zs hC 7 (by decide) (by decide))
  have HD := Lib.hid (fun w h N hN => drawC w0 w q A n c zs h N hN)
  clear hC
  go_enter Try.func89, Try.ntmps89
  go_wp2_with fail
  refine HB.out.mono ?_
  rintro e w1 ⟨⟨x, rfl, hx⟩, hC1, hg1⟩
  go_wp2_with fail
  refine (HD.out _ hC1 x (by omega)).mono ?_
  rintro e w2 ⟨⟨t, rfl, ht⟩, hC2⟩
  go_wp2_with fail
  go_ret
  exact ⟨⟨t, rfl, ht⟩, hC2⟩
set_option maxRecDepth 100000 in
set_option maxHeartbeats 1000000 in
theorem anyC (w0 w : World) (q : Nat) (A : Option Addr) (n c : Nat) (zs : List Int) (hC : Cur w0 w q A n c zs) :
    Calls Try.prog 77 #[.pointer (some ⟨q, 0, none⟩)] w fun e w' => (∃ x : ByteArray, e = .returned (.string x) ∧ x.size ≤ 101) ∧ Cur w0 w' q A n c zs := by
  have HP := Lib.hid (pathC w0 w q A n c zs hC)
  have HB := Lib.hid (fun w h => belowC w0 w q A n c zs h 12 (by decide) (by decide))
  have HS := Lib.hid (fun w h s hs => spoilC w0 w q A n c zs h s hs)
  have HK := Lib.hid (fun w h l L hL h0 hN => pickC w0 w q A n c zs h l L hL h0 hN)
  clear hC
  go_enter Try.func77, Try.ntmps77
  go_wp2_with fail
  refine HP.out.mono ?_
  rintro e w1 ⟨⟨t, rfl, ht⟩, hC1⟩
  have hs : (toB t.path).size ≤ 12 := by rw [toB_size, len_path]; omega
  obtain ⟨s, hss⟩ : ∃ s, s = toB t.path := ⟨_, rfl⟩
  rw [← hss] at hs ⊢
  have H1 := Lib.hid hC1
  clear hC1 hss
  go_wp2_with fail
  refine (HB.out _ H1.out).mono ?_
  rintro e w2 ⟨⟨x, rfl, hx⟩, hC2, hg2⟩
  have H2 := Lib.hid hC2
  clear hC2 hg2
  go_wp2_with fail
  · refine (HS.out _ H2.out s (by omega)).mono ?_
    rintro e w3 ⟨⟨y, rfl, hy⟩, hC3⟩
    go_wp2_with fail
    go_ret
    exact ⟨⟨_, rfl, hy⟩, hC3⟩
  · refine (HK.out _ H2.out [⟨#[]⟩, ⟨#[100, 117]⟩, ⟨#[117]⟩, ⟨#[120]⟩, ⟨#[117, 117, 117, 117, 117, 117, 117, 117, 117, 100, 100, 100, 100, 100, 100, 100, 100, 100]⟩, ⟨#[117, 117, 117, 117, 117, 117, 117, 117, 100, 100, 100, 100, 100, 100, 100, 100]⟩] 6 rfl (by decide) (by decide)).mono ?_
    rintro e w3 ⟨⟨y, rfl, hy⟩, hC3⟩
    have hy2 : y.size ≤ 101 := by
      simp only [List.mem_cons, List.not_mem_nil, or_false] at hy
      rcases hy with rfl | rfl | rfl | rfl | rfl | rfl <;> decide
    clear hy
    go_wp2_with fail
    go_ret
    exact ⟨⟨_, rfl, hy2⟩, hC3⟩
  · go_ret
    exact ⟨⟨_, rfl, by omega⟩, H2.out⟩
set_option maxRecDepth 100000 in
theorem drawBinaryOf (A : Option Addr) (n c : Nat) (zs : List Int) (w : World) (h : CodeAt w A n zs) :
    Calls Try.prog 43 #[.slice A n c] w fun e w' => (∃ s : ByteArray, e = .returned (.string s) ∧ s.size ≤ 101) ∧ Below w.heap.size w w' := by
  have HN := Lib.hid (newK A n c zs w h)
  clear h
  go_enter Try.func43, Try.ntmps43
  go_wp2_with fail
  refine HN.out.mono ?_
  rintro e w1 ⟨q, rfl, hC⟩
  go_wp2_with fail
  refine (anyC w w1 q A n c zs hC).mono ?_
  rintro e w2 ⟨⟨x, rfl, hx⟩, hC2⟩
  go_wp2_with fail
  go_ret
  exact ⟨⟨_, rfl, hx⟩, hC2.bel⟩
/-- A store into a row of our own. -/
theorem buf_put {w0 w : World} {g c : Nat} {l : List Int} (h : Buf w0 w 3 (.slice (some ⟨g, 0, none⟩) l.length c) (l.map (Value.int .i64))) (x : Nat) (y : Int) (hx : x < l.length) :
    w.cell? ⟨g, x, none⟩ = some (.int .i64 (l.getD x 0)) ∧ w.frozen? ⟨g, x, none⟩ = false ∧ Hid (Buf w0 (w.setCell ⟨g, x, none⟩ (.int .i64 y)) 3 (.slice (some ⟨g, 0, none⟩) (l.set x y).length c) ((l.set x y).map (Value.int .i64))) ∧ Hid (Ending.returned (.slice (some ⟨g, 0, none⟩) l.length c) = .returned (.slice (some ⟨g, 0, none⟩) (l.set x y).length c)) := by
  refine ⟨?_, h.frozenAt x, ?_, ?_⟩
  · rw [h.cellAt x hx]; simp [List.getD, hx]
  · have := h.set x (.int .i64 y)
    rw [List.length_set, List.map_set]
    exact this
  · rw [List.length_set]; rfl
end Go.Proofs.Ythbfockobnfomaa
