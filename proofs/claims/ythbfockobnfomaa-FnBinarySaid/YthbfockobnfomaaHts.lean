/-
  HeightsOf of both packages and its law, walked.
-/
import Derived.Test.YthbfockobnfomaaDyck
import Derived.Test.YthbfockobnfomaaInts
namespace Go.Proofs.Ythbfockobnfomaa
open Go.RowKit
def htsV (l : List UInt8) : List Int := if dyck l = true then hl l else []
theorem htsV_yes {l : List UInt8} (h : dyck l = true) : htsV l = hl l := if_pos h
theorem htsV_no {l : List UInt8} (h : dyck l = false) : htsV l = [] := if_neg (by rw [h]; simp)
theorem dyck_isPath {l : List UInt8} (h : dyck l = true) : isPath l = true := by simp [dyck] at h; exact h.2
theorem htsV_len (s : ByteArray) (hb : s.size ≤ 1048576) : (htsV s.data.toList).length ≤ 1073741824 := by
  unfold htsV
  split
  · rw [len_hl]; simp; omega
  · simp
theorem lit_nil (w : World) : Buf w (w.alloc (.cells #[] 3)) 3 (.slice (some ⟨w.heap.size, 0, none⟩) 0 0) (([] : List Int).map (Value.int .i64)) := Buf.lit (Below.refl _ w) [] (by decide)

set_option maxRecDepth 100000 in
theorem heightsOfI (s : ByteArray) (w : World) (hs : s.size ≤ 1048576) : Calls Try.prog 96 #[.string s] w (RetI (htsV s.data.toList) w) := by
  cases hd : dyck s.data.toList with
  | false =>
    rw [htsV_no hd]
    go_enter Try.func96, Try.ntmps96
    go_wp2_with (go_at_call 69; refine (isDyckI s _ hs).mono ?_; rintro e w1 ⟨rfl, hb⟩)
    go_ret
    exact RetI.of ((lit_nil _).from_ hb)
  | true =>
    rw [htsV_yes hd]
    have hs16 : s.size ≤ 16 := by have := dyck_len hd; simpa using this
    have HP := Lib.hid (dyck_isPath hd)
    go_enter Try.func96, Try.ntmps96
    go_wp2_with fail
    refine (isDyckI s _ hs).mono ?_
    rintro e w1 ⟨rfl, hb1⟩
    go_wp2_with fail
    refine (heightsI s _ hs16).mono ?_
    rintro e w2 ⟨v, rfl, hB, hb2⟩
    go_wp2_with fail
    go_ret
    exact RetI.of ((hB.out HP.out).from_ hb1)

end Go.Proofs.Ythbfockobnfomaa
