/-
  impl.readTree and impl.parseTree, walked: which texts read as trees.
-/
import Derived.Test.YthbfockobnfomaaBinT
import Derived.Test.YthbfockobnfomaaOps
namespace Go.Proofs.Ythbfockobnfomaa
open Go.RowKit
/-- What readTree hands back. -/
def RdT (s : ByteArray) (a : Nat) (w : World) (e : Ending) (w' : World) : Prop :=
  (∃ (t : Tr) (en : Nat) (v : Value), a < en ∧ en ≤ s.size ∧ Reads (s.data.toList.drop a) t (s.data.toList.drop en) ∧ e = .returned (.tuple #[v, .int .i64 (en : Int)]) ∧ TreeAt w' v t ∧ Below w.heap.size w w') ∨
  ((∀ t r, ¬ Reads (s.data.toList.drop a) t r) ∧ e = .returned (.tuple #[.pointer none, .int .i64 (-1)]) ∧ Below w.heap.size w w')

set_option maxRecDepth 100000 in
set_option maxHeartbeats 1000000 in
theorem readT (s : ByteArray) (hs : s.size ≤ 1000) : ∀ (n a : Nat), s.size - a ≤ n → a ≤ s.size → ∀ w : World, Calls Try.prog 85 #[.string s, .int .i64 (a : Int)] w (RdT s a w) := by
  intro n
  induction n with
  | zero =>
    intro a ha ha2 w
    have hnil := drop_end s a (by omega)
    have HN : Hid (∀ t r, ¬ Reads (s.data.toList.drop a) t r) := by intro t r; rw [hnil]; exact reads_nil t r
    clear hnil
    have hge : (s.size : Int) ≤ (a : Int) := by omega
    go_enter Try.func85, Try.ntmps85
    go_wp2
    go_ret2
    exact .inr ⟨HN.out, rfl, Below.refl _ _⟩
  | succ n ih =>
    intro a ha ha2 w
    by_cases hlt : a < s.size
    · have hd := drop_cons s a hlt
      have hge : ¬ ((s.size : Int) ≤ (a : Int)) := by omega
      have hlt' : (a : Int) < (s.size : Int) := by omega
      by_cases h1 : s[a] = 46
      · have e1 := byte_eq 46 46 h1
        have HR : Hid (Reads (s.data.toList.drop a) .lf (s.data.toList.drop (a + 1))) := by show Reads _ _ _; rw [hd, h1]; exact reads_leaf _
        clear hd h1
        go_enter Try.func85, Try.ntmps85
        go_wp2
        go_ret2
        exact .inl ⟨.lf, a + 1, .pointer none, by omega, by omega, HR.out, by go_num, rfl, Below.refl _ _⟩
      · have e1 := byte_ne 46 46 h1
        by_cases h2 : s[a] = 40
        · have e2 := byte_eq 40 40 h2
          have HI1 := Lib.hid (fun w => ih (a + 1) (by omega) (by omega) w)
          rw [show ((a + 1 : Nat) : Int) = (a : Int) + 1 by omega] at HI1
          have HI2 := Lib.hid (fun en (h1 : a + 1 < en) (h2 : en ≤ s.size) w => ih en (by omega) h2 w)
          have HD : Hid (s.data.toList.drop a = 40 :: s.data.toList.drop (a + 1)) := by show _ = _; rw [hd, h2]
          clear hd h1 h2 ih
          go_enter Try.func85, Try.ntmps85
          go_wp2_with fail
          refine (HI1.out _).mono ?_
          rintro e w1 (⟨t1, en1, v1, hen1, hen2, hr1, rfl, ht1, hb1⟩ | ⟨hno, rfl, hb1⟩)
          · obtain ⟨p1, rfl⟩ := ht1.form
            have HR1 := Lib.hid hr1
            have HT1 := Lib.hid ht1
            clear hr1 ht1
            go_wp2_with fail
            refine (HI2.out en1 hen1 hen2 _).mono ?_
            rintro e w2 (⟨t2, en2, v2, hen3, hen4, hr2, rfl, ht2, hb2⟩ | ⟨hno, rfl, hb2⟩)
            · obtain ⟨p2, rfl⟩ := ht2.form
              have HR2 := Lib.hid hr2
              have HT2 := Lib.hid ht2
              have HB := Lib.hid (below_then hb1 hb2)
              have HT1b := Lib.hid (HT1.out.keep hb2)
              clear hr2 ht2 hb1 hb2
              by_cases hz : en2 < s.size
              · have hd2 := drop_cons s en2 hz
                have hge2 : ¬ ((s.size : Int) ≤ (en2 : Int)) := by omega
                have hlt2 : (en2 : Int) < (s.size : Int) := by omega
                by_cases h3 : s[en2] = 41
                · have e3 : ((s[en2].toNat : Int) != 41) = false := by rw [h3]; rfl
                  have HRR : Hid (Reads (s.data.toList.drop a) (.nd t1 t2) (s.data.toList.drop (en2 + 1))) := by
                    show Reads _ _ _
                    have h4 := HR2.out
                    rw [hd2, h3] at h4
                    rw [HD.out]; exact reads_node HR1.out h4
                  have HT : Hid (TreeAt (w2.alloc (.cells #[.pointer p1, .pointer p2] 52)) (.pointer (some ⟨w2.heap.size, 0, none⟩)) (Tr.nd t1 t2)) := HT1b.out.node HT2.out
                  have HBB := Lib.hid (HB.out.alloc HB.out.size (.cells #[.pointer p1, .pointer p2] 52))
                  clear hd2 h3
                  go_wp2
                  go_ret2
                  exact .inl ⟨_, en2 + 1, _, by omega, by omega, HRR.out, by go_num, HT.out, HBB.out⟩
                · have e3 : ((s[en2].toNat : Int) != 41) = true := by
                    rw [bne_iff_ne]; intro h; exact h3 (nat_byte s[en2] 41 (by rw [h]; rfl))
                  have HN : Hid (∀ t r, ¬ Reads (s.data.toList.drop a) t r) := by
                    intro t r h
                    rw [HD.out] at h
                    obtain ⟨x, y, r1, rfl, h4, h5⟩ := reads_open h
                    obtain ⟨_, rfl⟩ := reads_uniq h4 HR1.out
                    obtain ⟨_, h6⟩ := reads_uniq h5 HR2.out
                    rw [hd2] at h6
                    injection h6 with h7 _
                    exact h3 h7.symm
                  clear hd2 h3
                  go_wp2
                  go_ret2
                  exact .inr ⟨HN.out, rfl, HB.out⟩
              · have hge2 : (s.size : Int) ≤ (en2 : Int) := by omega
                have HN : Hid (∀ t r, ¬ Reads (s.data.toList.drop a) t r) := by
                  intro t r h
                  rw [HD.out] at h
                  obtain ⟨x, y, r1, rfl, h4, h5⟩ := reads_open h
                  obtain ⟨_, rfl⟩ := reads_uniq h4 HR1.out
                  obtain ⟨_, h6⟩ := reads_uniq h5 HR2.out
                  rw [drop_end s en2 hz] at h6
                  cases h6
                go_wp2
                go_ret2
                exact .inr ⟨HN.out, rfl, HB.out⟩
            · have HN : Hid (∀ t r, ¬ Reads (s.data.toList.drop a) t r) := by
                intro t r h
                rw [HD.out] at h
                obtain ⟨x, y, r1, rfl, h4, h5⟩ := reads_open h
                obtain ⟨_, rfl⟩ := reads_uniq h4 HR1.out
                exact hno _ _ h5
              have HB := Lib.hid (below_then hb1 hb2)
              clear hno hb1 hb2
              go_wp2
              go_ret2
              exact .inr ⟨HN.out, rfl, HB.out⟩
          · have HN : Hid (∀ t r, ¬ Reads (s.data.toList.drop a) t r) := by
              intro t r h
              rw [HD.out] at h
              obtain ⟨x, y, r1, rfl, h4, _⟩ := reads_open h
              exact hno _ _ h4
            clear hno
            go_wp2
            go_ret2
            exact .inr ⟨HN.out, rfl, hb1⟩
        · have e2 := byte_ne 40 40 h2
          have HN : Hid (∀ t r, ¬ Reads (s.data.toList.drop a) t r) := by intro t r; rw [hd]; exact reads_other h1 h2
          clear hd h1 h2
          go_enter Try.func85, Try.ntmps85
          go_wp2
          go_ret2
          exact .inr ⟨HN.out, rfl, Below.refl _ _⟩
    · have hnil := drop_end s a hlt
      have HN : Hid (∀ t r, ¬ Reads (s.data.toList.drop a) t r) := by intro t r; rw [hnil]; exact reads_nil t r
      clear hnil
      have hge : (s.size : Int) ≤ (a : Int) := by omega
      go_enter Try.func85, Try.ntmps85
      go_wp2
      go_ret2
      exact .inr ⟨HN.out, rfl, Below.refl _ _⟩
end Go.Proofs.Ythbfockobnfomaa
