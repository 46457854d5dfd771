/-
  PartnerOf of both packages and its law, walked.
-/
import Derived.Test.YtfpdkjoimmociaaOps
import Derived.Test.YtfpdkjoimmociaaPart
import Derived.Test.YtfpdkjoimmociaaDepth
namespace Go.Proofs.Ytfpdkjoimmociaa
open Go.RowKit
theorem pob_len {l : List UInt8} {p : ByteArray} (h : pobV l = some p) : p.size = l.length := by
  unfold pobV at h
  cases he : exch 40 41 117 100 l with
  | none => rw [he] at h; cases h
  | some xs =>
    rw [he] at h
    have h2 : (if dyck (strOfNums xs).data.toList = true then some (strOfNums xs) else none) = some p := h
    split at h2
    · have : strOfNums xs = p := Option.some.inj h2
      rw [← this, strOfNums_size]; exact exch_len _ _ _ _ _ _ he
    · cases h2
theorem stk_all (l : List UInt8) (hg : hgo 0 l = some 0) : ∀ k, k ≤ l.length → ∃ ys xs, Stk l k ys xs := by
  intro k
  induction k with
  | zero => intro _; exact ⟨_, _, Stk.start l⟩
  | succ k ih =>
    intro hk
    obtain ⟨ys, xs, h⟩ := ih (by omega)
    by_cases hu : l.getD k 0 = 117
    · exact ⟨_, _, h.up (by omega) hu⟩
    · have h0 := h.some_ hg (by omega) hu
      exact ⟨_, _, (h.down (j := ys[ys.length - 1]) (by omega) hu (List.getElem?_eq_getElem (by omega)) h0).2⟩
theorem part_ex (l : List UInt8) (hg : hgo 0 l = some 0) (a : Nat) (ha : a < l.length) : ∃ b, b < l.length ∧ Part l a b := by
  obtain ⟨ys, xs, h⟩ := stk_all l hg l.length (Nat.le_refl _)
  obtain ⟨b, h1, h2, _⟩ := (h.end_ hg).2 a ha
  exact ⟨b, h1, h2⟩

set_option maxRecDepth 100000 in
theorem partnerI_none (s : ByteArray) (i : Int) (w : World) (hs : s.size ≤ 1048576) (ho : pobV s.data.toList = none) : Calls Try.prog 77 #[.string s, .int .i64 i] w fun e w' => e = .returned (.int .i64 (-1)) ∧ Below w.heap.size w w' := by
  have HX := Lib.hid (fun w => pobI s w hs)
  rw [ho] at HX
  unfold strB at HX
  clear ho
  go_enter Try.func77, Try.ntmps77
  go_wp2_with fail
  refine (HX.out _).mono ?_
  rintro e w1 ⟨rfl, hb1⟩
  go_wp2_with fail
  go_ret
  exact ⟨rfl, hb1⟩
set_option maxRecDepth 100000 in
theorem partnerI_out (s p : ByteArray) (i : Int) (w : World) (hs : s.size ≤ 1048576) (ho : pobV s.data.toList = some p) (hi : i < 0 ∨ (s.size : Int) - 1 < i) : Calls Try.prog 77 #[.string s, .int .i64 i] w fun e w' => e = .returned (.int .i64 (-1)) ∧ Below w.heap.size w w' := by
  have HX := Lib.hid (fun w => pobI s w hs)
  rw [ho] at HX
  have HX : Hid (∀ w, Calls Try.prog 71 #[.string s] w fun e w' => e = .returned (.tuple #[.string p, .bool true]) ∧ Below w.heap.size w w') := HX
  clear ho
  have HI := Lib.hid hi
  clear hi
  go_enter Try.func77, Try.ntmps77
  go_wp2_with fail
  refine (HX.out _).mono ?_
  rintro e w1 ⟨rfl, hb1⟩
  go_wp2_with fail
  refine (within_no _ _ _ _ HI.out).mono ?_
  rintro e w2 ⟨rfl, rfl⟩
  go_wp2_with fail
  go_ret
  exact ⟨rfl, hb1⟩
set_option maxRecDepth 100000 in
theorem partnerI_yes (s p : ByteArray) (i b : Nat) (w : World) (hs : s.size ≤ 1048576) (ho : pobV s.data.toList = some p) (hi : i < s.size) (hb : Part p.data.toList i b) : Calls Try.prog 77 #[.string s, .int .i64 (i : Int)] w fun e w' => e = .returned (.int .i64 (b : Int)) ∧ Below w.heap.size w w' := by
  have HX := Lib.hid (fun w => pobI s w hs)
  have hpl := pob_len ho
  have hp16 := pob_size ho
  have HP := Lib.hid (fun w => partnersI p w hp16 (dyck_path (pob_dyck ho)))
  have HB := Lib.hid hb
  have hps : p.size = s.size := by rw [hpl]; simp
  have hpi : i < p.size := by omega
  rw [ho] at HX
  have HX : Hid (∀ w, Calls Try.prog 71 #[.string s] w fun e w' => e = .returned (.tuple #[.string p, .bool true]) ∧ Below w.heap.size w w') := HX
  clear ho hb hpl hps
  go_enter Try.func77, Try.ntmps77
  go_wp2_with fail
  refine (HX.out _).mono ?_
  rintro e w1 ⟨rfl, hb1⟩
  go_wp2_with fail
  refine (within_yes _ _ _ _ (by omega) (by omega)).mono ?_
  rintro e w2 ⟨rfl, rfl⟩
  go_wp2_with fail
  refine (HP.out _).mono ?_
  rintro e w3 ⟨g, xs, rfl, hB, hxl, hall⟩
  have hcell : w3.cell? ⟨g, i, none⟩ = some (.int .i64 (b : Int)) := by
    obtain ⟨c, _, h2, h3⟩ := hall i (by simp; omega)
    rw [hB.cellAt i hpi, vi_get _ _ _ h3, part_one h2 HB.out]
  clear hall hxl
  go_wp2_with fail
  go_ret
  exact ⟨rfl, below_then hb1 hB.bel⟩
set_option maxRecDepth 100000 in
theorem partnerS_none (s : ByteArray) (i : Int) (w : World) (hs : s.size ≤ 1048576) (ho : pobV s.data.toList = none) : Calls Try.prog 76 #[.string s, .int .i64 i] w fun e w' => e = .returned (.int .i64 (-1)) ∧ Below w.heap.size w w' := by
  have HX := Lib.hid (fun w => pobS s w hs)
  rw [ho] at HX
  unfold strB at HX
  clear ho
  go_enter Try.func76, Try.ntmps76
  go_wp2_with fail
  refine (HX.out _).mono ?_
  rintro e w1 ⟨rfl, hb1⟩
  go_wp2_with fail
  go_ret
  exact ⟨rfl, hb1⟩
set_option maxRecDepth 100000 in
theorem partnerS_out (s p : ByteArray) (i : Int) (w : World) (hs : s.size ≤ 1048576) (ho : pobV s.data.toList = some p) (hi : i < 0 ∨ (s.size : Int) - 1 < i) : Calls Try.prog 76 #[.string s, .int .i64 i] w fun e w' => e = .returned (.int .i64 (-1)) ∧ Below w.heap.size w w' := by
  have HX := Lib.hid (fun w => pobS s w hs)
  rw [ho] at HX
  have HX : Hid (∀ w, Calls Try.prog 70 #[.string s] w fun e w' => e = .returned (.tuple #[.string p, .bool true]) ∧ Below w.heap.size w w') := HX
  clear ho
  have HI := Lib.hid hi
  clear hi
  go_enter Try.func76, Try.ntmps76
  go_wp2_with fail
  refine (HX.out _).mono ?_
  rintro e w1 ⟨rfl, hb1⟩
  go_wp2_with fail
  refine (in_no _ _ _ _ HI.out).mono ?_
  rintro e w2 ⟨rfl, rfl⟩
  go_wp2_with fail
  go_ret
  exact ⟨rfl, hb1⟩
set_option maxRecDepth 100000 in
theorem partnerS_yes (s p : ByteArray) (i b : Nat) (w : World) (hs : s.size ≤ 1048576) (ho : pobV s.data.toList = some p) (hi : i < s.size) (hb : Part p.data.toList i b) : Calls Try.prog 76 #[.string s, .int .i64 (i : Int)] w fun e w' => e = .returned (.int .i64 (b : Int)) ∧ Below w.heap.size w w' := by
  have HX := Lib.hid (fun w => pobS s w hs)
  have hp16 := pob_size ho
  have HP : Hid (∀ w, Calls Try.prog 99 #[.string p, .int .i64 (i : Int)] w fun e w' => e = .returned (.int .i64 (b : Int)) ∧ w = w') := by
    intro w
    rcases hb with hb | hb
    · exact partnerS_fwd p i b w hp16 (dyck_path (pob_dyck ho)) hb
    · exact partnerS_back p i b w hp16 (dyck_path (pob_dyck ho)) hb
  rw [ho] at HX
  have HX : Hid (∀ w, Calls Try.prog 70 #[.string s] w fun e w' => e = .returned (.tuple #[.string p, .bool true]) ∧ Below w.heap.size w w') := HX
  clear ho hb
  go_enter Try.func76, Try.ntmps76
  go_wp2_with fail
  refine (HX.out _).mono ?_
  rintro e w1 ⟨rfl, hb1⟩
  go_wp2_with fail
  refine (in_yes _ _ _ _ (by omega) (by omega)).mono ?_
  rintro e w2 ⟨rfl, rfl⟩
  go_wp2_with fail
  refine (HP.out _).mono ?_
  rintro e w3 ⟨rfl, rfl⟩
  go_wp2_with fail
  go_ret
  exact ⟨rfl, hb1⟩
set_option maxRecDepth 100000 in
theorem law_FnExactPartnerOf (s : ByteArray) (i : Int) (w : World) (hs : s.size ≤ maxLen) (_ : (Lit.int .i64 i).wf = true) : Calls Try.prog 23 #[.string s, .int .i64 i] w fun e w' => e = .returned (.bool true) ∧ Below w.heap.size w w' := by
  unfold maxLen at hs
  by_cases hb : s.size ≤ 1048576
  · have both : ∃ v : Int, (∀ w, Calls Try.prog 76 #[.string s, .int .i64 i] w fun e w' => e = .returned (.int .i64 v) ∧ Below w.heap.size w w') ∧ (∀ w, Calls Try.prog 77 #[.string s, .int .i64 i] w fun e w' => e = .returned (.int .i64 v) ∧ Below w.heap.size w w') := by
      cases ho : pobV s.data.toList with
      | none => exact ⟨-1, fun w => partnerS_none s i w hb ho, fun w => partnerI_none s i w hb ho⟩
      | some p =>
        by_cases hi : i < 0 ∨ (s.size : Int) - 1 < i
        · exact ⟨-1, fun w => partnerS_out s p i w hb ho hi, fun w => partnerI_out s p i w hb ho hi⟩
        · obtain ⟨k, rfl⟩ : ∃ k : Nat, i = (k : Int) := ⟨i.toNat, by omega⟩
          have hlen := pob_len ho
          obtain ⟨b, _, h2⟩ := part_ex p.data.toList (dyck_path (pob_dyck ho)) k (by simp at hlen ⊢; omega)
          exact ⟨b, fun w => partnerS_yes s p k b w hb ho (by omega) h2, fun w => partnerI_yes s p k b w hb ho (by omega) h2⟩
    obtain ⟨v, h1, h2⟩ := both
    have HS := Lib.hid h1
    have HI := Lib.hid h2
    clear h1 h2
    go_enter Try.func23, Try.ntmps23
    go_wp2_with fail
    refine (HS.out _).mono ?_
    rintro e w1 ⟨rfl, h1⟩
    go_wp2_with fail
    refine (HI.out _).mono ?_
    rintro e w2 ⟨rfl, h2⟩
    go_wp2_with fail
    go_ret
    exact ⟨rfl, below_then h1 h2⟩
  · go_enter Try.func23, Try.ntmps23
    go_wp2
    go_ret
    exact ⟨rfl, Below.refl _ _⟩
end Go.Proofs.Ytfpdkjoimmociaa
