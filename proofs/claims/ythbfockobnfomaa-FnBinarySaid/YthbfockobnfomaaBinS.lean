/-
  The functions on texts of trees in the package spec: l6End, IsBinary, l6Path, l6Mirror, walked.
-/
import Derived.Test.YthbfockobnfomaaBinP
import Derived.Test.YthbfockobnfomaaBsP
import Derived.Test.YthbfockobnfomaaOps
import Derived.Deep.RegionHeld3
import Derived.Deep.TreeCalls
namespace Go.Proofs.Ythbfockobnfomaa
open Go.RowKit
def EndS (s : ByteArray) (a : Nat) (w : World) (e : Ending) (w' : World) : Prop :=
  (∃ (t : Tr) (en : Nat), a < en ∧ en ≤ s.size ∧ Reads (s.data.toList.drop a) t (s.data.toList.drop en) ∧ e = .returned (.int .i64 (en : Int)) ∧ w = w') ∨
  ((∀ t r, ¬ Reads (s.data.toList.drop a) t r) ∧ e = .returned (.int .i64 (-1)) ∧ w = w')

set_option maxRecDepth 100000 in
set_option maxHeartbeats 1000000 in
theorem endS (s : ByteArray) (hs : s.size ≤ 1000) : ∀ (n a : Nat), s.size - a ≤ n → a ≤ s.size → ∀ w : World, Calls Try.prog 55 #[.string s, .int .i64 (a : Int)] w (EndS s a w) := by
  intro n
  induction n with
  | zero =>
    intro a ha ha2 w
    have hnil := drop_end s a (by omega)
    have HN : Hid (∀ t r, ¬ Reads (s.data.toList.drop a) t r) := by intro t r; rw [hnil]; exact reads_nil t r
    clear hnil
    have hge : (s.size : Int) ≤ (a : Int) := by omega
    go_enter Try.func55, Try.ntmps55
    go_wp2
    go_ret
    exact .inr ⟨HN.out, rfl, rfl⟩
  | succ n ih =>
    intro a ha ha2 w
    by_cases hlt : a < s.size
    · have hd := drop_cons s a hlt
      have hge : ¬ ((s.size : Int) ≤ (a : Int)) := by omega
      have hlt' : (a : Int) < (s.size : Int) := by omega
      by_cases h1 : s[a] = 46
      · have e1 := byte_eq 46 46 h1
        have HR : Hid (Reads (s.data.toList.drop a) .lf (s.data.toList.drop (a + 1))) := by show Reads _ _ _; rw [hd, h1]; exact reads_leaf _
        clear hd h1
        go_enter Try.func55, Try.ntmps55
        go_wp2
        go_ret
        exact .inl ⟨.lf, a + 1, by omega, by omega, HR.out, by go_num, rfl⟩
      · have e1 := byte_ne 46 46 h1
        by_cases h2 : s[a] = 40
        · have e2 : ((s[a].toNat : Int) != 40) = false := by rw [h2]; rfl
          have HI1 := Lib.hid (fun w => ih (a + 1) (by omega) (by omega) w)
          rw [show ((a + 1 : Nat) : Int) = (a : Int) + 1 by omega] at HI1
          have HI2 := Lib.hid (fun en (h1 : a + 1 < en) (h2 : en ≤ s.size) w => ih en (by omega) h2 w)
          have HD : Hid (s.data.toList.drop a = 40 :: s.data.toList.drop (a + 1)) := by show _ = _; rw [hd, h2]
          clear hd h1 h2 ih
          go_enter Try.func55, Try.ntmps55
          go_wp2_with fail
          refine (HI1.out _).mono ?_
          rintro e w1 (⟨t1, en1, hen1, hen2, hr1, rfl, rfl⟩ | ⟨hno, rfl, rfl⟩)
          · have HR1 := Lib.hid hr1
            clear hr1
            go_wp2_with fail
            refine (HI2.out en1 hen1 hen2 _).mono ?_
            rintro e w2 (⟨t2, en2, hen3, hen4, hr2, rfl, rfl⟩ | ⟨hno, rfl, rfl⟩)
            · have HR2 := Lib.hid hr2
              clear hr2
              by_cases hz : en2 < s.size
              · have hd2 := drop_cons s en2 hz
                have hge2 : ¬ ((s.size : Int) ≤ (en2 : Int)) := by omega
                have hlt2 : (en2 : Int) < (s.size : Int) := by omega
                by_cases h3 : s[en2] = 41
                · have e3 : ((s[en2].toNat : Int) != 41) = false := by rw [h3]; rfl
                  have HRR : Hid (Reads (s.data.toList.drop a) (.nd t1 t2) (s.data.toList.drop (en2 + 1))) := by
                    show Reads _ _ _
                    have h4 := HR2.out
                    rw [hd2, h3] at h4
                    rw [HD.out]; exact reads_node HR1.out h4
                  clear hd2 h3
                  go_wp2
                  go_ret
                  exact .inl ⟨_, en2 + 1, by omega, by omega, HRR.out, by go_num, rfl⟩
                · have e3 : ((s[en2].toNat : Int) != 41) = true := by
                    rw [bne_iff_ne]; intro h; exact h3 (nat_byte s[en2] 41 (by rw [h]; rfl))
                  have HN : Hid (∀ t r, ¬ Reads (s.data.toList.drop a) t r) := by
                    intro t r h
                    rw [HD.out] at h
                    obtain ⟨x, y, r1, rfl, h4, h5⟩ := reads_open h
                    obtain ⟨_, rfl⟩ := reads_uniq h4 HR1.out
                    obtain ⟨_, h6⟩ := reads_uniq h5 HR2.out
                    rw [hd2] at h6
                    injection h6 with h7 _
                    exact h3 h7.symm
                  clear hd2 h3
                  go_wp2
                  go_ret
                  exact .inr ⟨HN.out, rfl, rfl⟩
              · have hge2 : (s.size : Int) ≤ (en2 : Int) := by omega
                have HN : Hid (∀ t r, ¬ Reads (s.data.toList.drop a) t r) := by
                  intro t r h
                  rw [HD.out] at h
                  obtain ⟨x, y, r1, rfl, h4, h5⟩ := reads_open h
                  obtain ⟨_, rfl⟩ := reads_uniq h4 HR1.out
                  obtain ⟨_, h6⟩ := reads_uniq h5 HR2.out
                  rw [drop_end s en2 hz] at h6
                  cases h6
                go_wp2
                go_ret
                exact .inr ⟨HN.out, rfl, rfl⟩
            · have HN : Hid (∀ t r, ¬ Reads (s.data.toList.drop a) t r) := by
                intro t r h
                rw [HD.out] at h
                obtain ⟨x, y, r1, rfl, h4, h5⟩ := reads_open h
                obtain ⟨_, rfl⟩ := reads_uniq h4 HR1.out
                exact hno _ _ h5
              clear hno
              go_wp2
              go_ret
              exact .inr ⟨HN.out, rfl, rfl⟩
          · have HN : Hid (∀ t r, ¬ Reads (s.data.toList.drop a) t r) := by
              intro t r h
              rw [HD.out] at h
              obtain ⟨x, y, r1, rfl, h4, _⟩ := reads_open h
              exact hno _ _ h4
            clear hno
            go_wp2
            go_ret
            exact .inr ⟨HN.out, rfl, rfl⟩
        · have e2 : ((s[a].toNat : Int) != 40) = true := by
            rw [bne_iff_ne]; intro h; exact h2 (nat_byte s[a] 40 (by rw [h]; rfl))
          have HN : Hid (∀ t r, ¬ Reads (s.data.toList.drop a) t r) := by intro t r; rw [hd]; exact reads_other h1 h2
          clear hd h1 h2
          go_enter Try.func55, Try.ntmps55
          go_wp2
          go_ret
          exact .inr ⟨HN.out, rfl, rfl⟩
    · have hnil := drop_end s a hlt
      have HN : Hid (∀ t r, ¬ Reads (s.data.toList.drop a) t r) := by intro t r; rw [hnil]; exact reads_nil t r
      clear hnil
      have hge : (s.size : Int) ≤ (a : Int) := by omega
      go_enter Try.func55, Try.ntmps55
      go_wp2
      go_ret
      exact .inr ⟨HN.out, rfl, rfl⟩
/-- l6End at a place where it is known which tree stands there. -/
theorem endS_at (s : ByteArray) (a en : Nat) (t : Tr) (w : World) (hs : s.size ≤ 1000) (ha : a ≤ s.size) (hen : en ≤ s.size) (hr : Reads (s.data.toList.drop a) t (s.data.toList.drop en)) : Calls Try.prog 55 #[.string s, .int .i64 (a : Int)] w fun e w' => e = .returned (.int .i64 (en : Int)) ∧ w = w' := by
  refine (endS s hs _ a (Nat.le_refl _) ha w).mono ?_
  rintro e w' (⟨t1, en1, h1, h2, h3, h4, h5⟩ | ⟨hno, _, _⟩)
  · obtain ⟨_, h6⟩ := reads_uniq h3 hr
    have h7 := congrArg List.length h6
    simp at h7
    obtain rfl : en1 = en := by omega
    exact ⟨h4, h5⟩
  · exact absurd hr (hno _ _)
theorem nd_txt_l (a b : Tr) : (toB (Tr.nd a b).txt).extract 1 (a.txt.length + 1) = toB a.txt := by
  rw [extract_toB, toB_list]
  congr 1
  show ((40 :: (a.txt ++ (b.txt ++ [41]))).drop 1).take (a.txt.length + 1 - 1) = _
  simp
theorem nd_txt_r (a b : Tr) (n : Nat) (hn : n = a.txt.length + 1 + b.txt.length) : (toB (Tr.nd a b).txt).extract (a.txt.length + 1) n = toB b.txt := by
  subst hn
  rw [extract_toB, toB_list]
  congr 1
  show ((40 :: (a.txt ++ (b.txt ++ [41]))).drop (a.txt.length + 1)).take _ = _
  rw [List.drop_succ_cons, List.drop_append, List.drop_of_length_le (Nat.le_refl _), Nat.sub_self]
  simp
theorem nd_txt_reads (a b : Tr) : Reads ((toB (Tr.nd a b).txt).data.toList.drop 1) a ((toB (Tr.nd a b).txt).data.toList.drop (a.txt.length + 1)) := by
  rw [toB_list]
  show a.txt ++ (b.txt ++ [41]) = a.txt ++ (a.txt ++ (b.txt ++ [41])).drop a.txt.length
  simp
theorem nd_txt_size (a b : Tr) : (toB (Tr.nd a b).txt).size = a.txt.length + 1 + b.txt.length + 1 := by
  rw [toB_size]
  show (40 :: (a.txt ++ (b.txt ++ [41]))).length = _
  simp; omega
theorem txt_dot_no (a b : Tr) : ((toB (Tr.nd a b).txt).toList == [46]) = false := by
  rw [bytes_list]
  show ((40 :: (a.txt ++ (b.txt ++ [41]))) == [46]) = false
  rfl
theorem txt_dot_yes : ((toB Tr.lf.txt).toList == [46]) = true := by rw [bytes_list]; rfl
theorem txt_ne (t : Tr) : (toB t.txt).data.toList.isEmpty = false ∧ (toB t.txt).toList.isEmpty = false := by
  obtain ⟨c, r, h, _⟩ := txt_head t
  refine ⟨?_, ?_⟩
  · rw [toB_list, h]; rfl
  · rw [bytes_list, toB_list, h]; rfl
theorem toB_par' (l r : List UInt8) : (⟨#[40]⟩ : ByteArray) ++ toB l ++ toB r ++ ⟨#[41]⟩ = toB (40 :: (l ++ (r ++ [41]))) := by
  apply ByteArray.ext
  simp [toB, ByteArray.data_append]
theorem toB_ud' (l r : List UInt8) : (⟨#[117]⟩ : ByteArray) ++ toB l ++ ⟨#[100]⟩ ++ toB r = toB (117 :: (l ++ 100 :: r)) := by
  apply ByteArray.ext
  simp [toB, ByteArray.data_append]
/-- The text is a tree with at most 8 nodes. -/
def Bin (s : ByteArray) : Prop := ∃ t : Tr, s = toB t.txt ∧ t.nodes ≤ 8
theorem not_bin {s : ByteArray} (h : ¬ Bin s) (h25 : s.size ≤ 25) : ∀ t : Tr, ¬ Reads (s.data.toList.drop 0) t [] := by
  intro t hr
  apply h
  unfold Reads at hr
  rw [List.drop_zero, List.append_nil] at hr
  refine ⟨t, by rw [← hr, toB_of], ?_⟩
  have := congrArg List.length hr
  rw [len_txt] at this
  simp at this; omega

set_option maxRecDepth 100000 in
set_option maxHeartbeats 1000000 in
theorem isBinS_yes (t : Tr) (hn : t.nodes ≤ 8) (w : World) : Calls Try.prog 16 #[.string (toB t.txt)] w fun e w' => e = .returned (.bool true) ∧ w = w' := by
  have hsz : (toB t.txt).size ≤ 25 := by rw [toB_size, len_txt]; omega
  have HE := Lib.hid (fun w => endS_at (toB t.txt) 0 (toB t.txt).size t w (by omega) (by omega) (Nat.le_refl _) (by rw [toB_size, toB_list, List.drop_zero, List.drop_of_length_le (Nat.le_refl _)]; unfold Reads; simp))
  obtain ⟨m1, m2⟩ := txt_ne t
  obtain ⟨x, hx⟩ : ∃ x, x = toB t.txt := ⟨_, rfl⟩
  rw [← hx] at hsz HE m1 m2 ⊢
  clear hx
  go_enter Try.func16, Try.ntmps16
  go_wp2_with (go_at_call 55; refine (HE.out _).mono ?_; rintro e w' ⟨rfl, rfl⟩)
  go_ret
  exact ⟨rfl, rfl⟩
set_option maxRecDepth 100000 in
set_option maxHeartbeats 1000000 in
theorem isBinS_no (s : ByteArray) (hs : s.size ≤ 1048576) (h : ¬ Bin s) (w : World) : Calls Try.prog 16 #[.string s] w fun e w' => e = .returned (.bool false) ∧ w = w' := by
  by_cases h25 : s.size ≤ 25
  · have hno := not_bin h h25
    have HE := Lib.hid (fun w => endS s (by omega) s.size 0 (by omega) (by omega) w)
    have HN := Lib.hid hno
    clear hno h
    go_enter Try.func16, Try.ntmps16
    go_wp2_with fail
    refine (HE.out _).mono ?_
    rintro e w1 (⟨t1, en1, hen1, hen2, hr1, rfl, rfl⟩ | ⟨hno, rfl, rfl⟩)
    · have hne : en1 ≠ s.size := by
        intro he
        subst he
        rw [drop_end s s.size (by omega)] at hr1
        exact HN.out _ hr1
      have e1 : ((en1 : Int) == (s.size : Int)) = false := by rw [beq_eq_false_iff_ne]; omega
      clear hr1 hne
      go_wp2
      go_ret
      exact ⟨rfl, rfl⟩
    · have e1 : ((-1 : Int) == (s.size : Int)) = false := by rw [beq_eq_false_iff_ne]; omega
      clear hno
      go_wp2
      go_ret
      exact ⟨rfl, rfl⟩
  · clear h
    have hge : ¬ ((s.size : Int) ≤ 25) := by omega
    go_enter Try.func16, Try.ntmps16
    go_wp2
    go_ret
    exact ⟨rfl, rfl⟩
set_option maxRecDepth 100000 in
set_option maxHeartbeats 1000000 in
theorem l6PathS (t : Tr) (hn : t.nodes ≤ 8) : ∀ w : World, Calls Try.prog 63 #[.string (toB t.txt)] w fun e w' => e = .returned (.string (toB t.path)) ∧ ∃ n, w' = w.drewN n := by
  induction t with
  | lf =>
    intro w
    have e1 := txt_dot_yes
    obtain ⟨x, hx⟩ : ∃ x, x = toB (Tr.lf).txt := ⟨_, rfl⟩
    rw [← hx] at e1 ⊢
    clear hx
    go_enter Try.func63, Try.ntmps63
    go_wp2
    go_ret
    exact ⟨rfl, 0, rfl⟩
  | nd a b iha ihb =>
    intro w
    simp only [Tr.nodes] at hn
    have hsz := nd_txt_size a b
    have hla := len_txt a
    have hlb := len_txt b
    have e0 := txt_dot_no a b
    have HE := Lib.hid (fun w => endS_at (toB (Tr.nd a b).txt) 1 (a.txt.length + 1) a w (by omega) (by omega) (by omega) (nd_txt_reads a b))
    have HA := Lib.hid (iha (by omega))
    have HC := Lib.hid (ihb (by omega))
    rw [← nd_txt_l a b] at HA
    rw [← nd_txt_r a b ((toB (Tr.nd a b).txt).size - 1) (by omega)] at HC
    have HT := Lib.hid (toB_ud' a.path b.path)
    have HV : Hid (toB (Tr.nd a b).path = toB (117 :: (a.path ++ 100 :: b.path))) := rfl
    have s1 : (toB a.path).size ≤ 16 := by rw [toB_size, len_path]; omega
    have s2 : (toB b.path).size ≤ 16 := by rw [toB_size, len_path]; omega
    obtain ⟨x, hx⟩ : ∃ x, x = toB a.path := ⟨_, rfl⟩
    obtain ⟨y, hy⟩ : ∃ y, y = toB b.path := ⟨_, rfl⟩
    obtain ⟨s, hs⟩ : ∃ s, s = toB (Tr.nd a b).txt := ⟨_, rfl⟩
    obtain ⟨m, hm⟩ : ∃ m, m = a.txt.length + 1 := ⟨_, rfl⟩
    rw [← hx] at HA HT s1
    rw [← hy] at HC HT s2
    rw [← hs] at hsz e0 HE HA HC ⊢
    rw [← hm] at hsz HE HA HC
    have p1 : (⟨#[117]⟩ : ByteArray).size ≤ 1 := Nat.le_refl _
    have p2 : (⟨#[100]⟩ : ByteArray).size ≤ 1 := Nat.le_refl _
    have s3 : (⟨#[117]⟩ ++ x : ByteArray).size ≤ 17 := by rw [ByteArray.size_append]; omega
    have s4 : (⟨#[117]⟩ ++ x ++ ⟨#[100]⟩ : ByteArray).size ≤ 18 := by rw [ByteArray.size_append]; omega
    have k1 : (1 : Int) ≤ (m : Int) := by omega
    have k2 : (m : Int) ≤ (s.size : Int) := by omega
    have k3 : (m : Int) ≤ (s.size : Int) - 1 := by omega
    have k4 : (s.size : Int) - 1 ≤ (s.size : Int) := by omega
    have k5 : (0 : Int) ≤ (s.size : Int) - 1 := by omega
    have k6 : IntKind.i64.wrap ((s.size : Int) - 1) = (s.size : Int) - 1 := IntWalk.i64_in _ ⟨by omega, by omega⟩
    have k7 : ((s.size : Int) - 1).toNat = s.size - 1 := by omega
    clear iha ihb hx hy hs hm hsz hla hlb
    go_enter Try.func63, Try.ntmps63
    go_wp2_with (go_at_call 55; refine (HE.out _).mono ?_; rintro e w' ⟨rfl, rfl⟩)
    go_quiet ((go_at_call 63; first | (with_reducible exact Calls.quiet_of (HA.out _)) | (with_reducible exact Calls.quiet_of (HC.out _))))
    go_wp2_with fail
    go_ret
    exact ⟨by rw [HV.out, ← HT.out]; rfl, nq, rfl⟩
set_option maxRecDepth 100000 in
set_option maxHeartbeats 1000000 in
theorem l6MirrorS (t : Tr) (hn : t.nodes ≤ 8) : ∀ w : World, Calls Try.prog 65 #[.string (toB t.txt)] w fun e w' => e = .returned (.string (toB t.mir.txt)) ∧ ∃ n, w' = w.drewN n := by
  induction t with
  | lf =>
    intro w
    have e1 := txt_dot_yes
    obtain ⟨x, hx⟩ : ∃ x, x = toB (Tr.lf).txt := ⟨_, rfl⟩
    rw [← hx] at e1 ⊢
    clear hx
    go_enter Try.func65, Try.ntmps65
    go_wp2
    go_ret
    exact ⟨rfl, 0, rfl⟩
  | nd a b iha ihb =>
    intro w
    simp only [Tr.nodes] at hn
    have hsz := nd_txt_size a b
    have hla := len_txt a
    have hlb := len_txt b
    have e0 := txt_dot_no a b
    have HE := Lib.hid (fun w => endS_at (toB (Tr.nd a b).txt) 1 (a.txt.length + 1) a w (by omega) (by omega) (by omega) (nd_txt_reads a b))
    have HA := Lib.hid (iha (by omega))
    have HC := Lib.hid (ihb (by omega))
    rw [← nd_txt_l a b] at HA
    rw [← nd_txt_r a b ((toB (Tr.nd a b).txt).size - 1) (by omega)] at HC
    have HT := Lib.hid (toB_par' b.mir.txt a.mir.txt)
    have HV : Hid (toB (Tr.nd a b).mir.txt = toB (40 :: (b.mir.txt ++ (a.mir.txt ++ [41])))) := rfl
    have s1 : (toB a.mir.txt).size ≤ 25 := by rw [toB_size, len_txt, nodes_mir]; omega
    have s2 : (toB b.mir.txt).size ≤ 25 := by rw [toB_size, len_txt, nodes_mir]; omega
    obtain ⟨x, hx⟩ : ∃ x, x = toB a.mir.txt := ⟨_, rfl⟩
    obtain ⟨y, hy⟩ : ∃ y, y = toB b.mir.txt := ⟨_, rfl⟩
    obtain ⟨s, hs⟩ : ∃ s, s = toB (Tr.nd a b).txt := ⟨_, rfl⟩
    obtain ⟨m, hm⟩ : ∃ m, m = a.txt.length + 1 := ⟨_, rfl⟩
    rw [← hx] at HA HT s1
    rw [← hy] at HC HT s2
    rw [← hs] at hsz e0 HE HA HC ⊢
    rw [← hm] at hsz HE HA HC
    have p1 : (⟨#[40]⟩ : ByteArray).size ≤ 1 := Nat.le_refl _
    have p2 : (⟨#[41]⟩ : ByteArray).size ≤ 1 := Nat.le_refl _
    have s3 : (⟨#[40]⟩ ++ y : ByteArray).size ≤ 26 := by rw [ByteArray.size_append]; omega
    have s4 : (⟨#[40]⟩ ++ y ++ x : ByteArray).size ≤ 51 := by rw [ByteArray.size_append]; omega
    have k1 : (1 : Int) ≤ (m : Int) := by omega
    have k2 : (m : Int) ≤ (s.size : Int) := by omega
    have k3 : (m : Int) ≤ (s.size : Int) - 1 := by omega
    have k4 : (s.size : Int) - 1 ≤ (s.size : Int) := by omega
    have k5 : (0 : Int) ≤ (s.size : Int) - 1 := by omega
    have k6 : IntKind.i64.wrap ((s.size : Int) - 1) = (s.size : Int) - 1 := IntWalk.i64_in _ ⟨by omega, by omega⟩
    have k7 : ((s.size : Int) - 1).toNat = s.size - 1 := by omega
    clear iha ihb hx hy hs hm hsz hla hlb
    go_enter Try.func65, Try.ntmps65
    go_wp2_with (go_at_call 55; refine (HE.out _).mono ?_; rintro e w' ⟨rfl, rfl⟩)
    go_quiet ((go_at_call 65; first | (with_reducible exact Calls.quiet_of (HA.out _)) | (with_reducible exact Calls.quiet_of (HC.out _))))
    go_wp2_with fail
    go_ret
    exact ⟨by rw [HV.out, ← HT.out]; rfl, nq, rfl⟩
end Go.Proofs.Ythbfockobnfomaa
