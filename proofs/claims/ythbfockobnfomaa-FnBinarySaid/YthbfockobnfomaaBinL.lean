/-
  The functions on binary trees of both packages, walked: IsBinary, NodesOf, PathOfBinary, PartsOfBinary, MirrorBinary, BinaryOf, and their laws.
-/
import Derived.Test.YthbfockobnfomaaBinI
import Derived.Test.YthbfockobnfomaaBinS
import Derived.Test.YthbfockobnfomaaBinC
namespace Go.Proofs.Ythbfockobnfomaa
open Go.RowKit
theorem quiet_b {w w' : World} {n : Nat} (h : w' = w.drewN n) : Below w.heap.size w w' := by subst h; exact below_drewN (Below.refl _ _) _

set_option maxRecDepth 100000 in
set_option maxHeartbeats 1000000 in
theorem parse_yes (t : Tr) (hn : t.nodes ≤ 8) (w : World) : Calls Try.prog 56 #[.string (toB t.txt)] w fun e w' => ∃ v, e = .returned (.tuple #[v, .bool true]) ∧ TreeAt w' v t ∧ Below w.heap.size w w' := by
  have hsz : (toB t.txt).size ≤ 25 := by rw [toB_size, len_txt]; omega
  have HE := Lib.hid (fun w => readT (toB t.txt) (by omega) (toB t.txt).size 0 (by omega) (by omega) w)
  have HR : Hid (Reads ((toB t.txt).data.toList.drop 0) t []) := by show Reads _ _ _; rw [toB_list, List.drop_zero]; unfold Reads; simp
  have hlen : (toB t.txt).data.toList.length = (toB t.txt).size := by simp
  have HL := Lib.hid hlen
  obtain ⟨x, hx⟩ : ∃ x, x = toB t.txt := ⟨_, rfl⟩
  rw [← hx] at hsz HE HR HL ⊢
  clear hx hlen
  go_enter Try.func56, Try.ntmps56
  go_wp2_with fail
  refine (HE.out _).mono ?_
  rintro e w1 (⟨t1, en1, v1, hen1, hen2, hr1, rfl, ht1, hb1⟩ | ⟨hno, rfl, hb1⟩)
  · obtain ⟨rfl, hd⟩ := reads_uniq hr1 HR.out
    have he : en1 = x.size := by
      have := congrArg List.length hd
      rw [List.length_drop, HL.out] at this
      simp at this; omega
    subst he
    have HN := Lib.hid (fun w v h => nodesT t1 (by omega) w v h)
    obtain ⟨p1, rfl⟩ := ht1.form
    have HT := Lib.hid ht1
    have e1 : ((x.size : Int) != (x.size : Int)) = false := by simp
    have hn' : ¬ ((8 : Int) < (t1.nodes : Int)) := by omega
    clear hr1 hd ht1
    go_wp2_with fail
    refine (HN.out _ _ HT.out).mono ?_
    rintro e w2 ⟨rfl, q, rfl⟩
    go_wp2_with fail
    go_ret2
    exact ⟨_, rfl, HT.out.drewN _, below_drewN hb1 _⟩
  · exact absurd HR.out (hno _ _)
set_option maxRecDepth 100000 in
set_option maxHeartbeats 1000000 in
theorem parse_no (s : ByteArray) (hs : s.size ≤ 1048576) (h : ¬ Bin s) (w : World) : Calls Try.prog 56 #[.string s] w fun e w' => e = .returned (.tuple #[.pointer none, .bool false]) ∧ Below w.heap.size w w' := by
  by_cases h25 : s.size ≤ 25
  · have HN := Lib.hid (not_bin h h25)
    have HE := Lib.hid (fun w => readT s (by omega) s.size 0 (by omega) (by omega) w)
    have hge : ¬ ((25 : Int) < (s.size : Int)) := by omega
    clear h
    go_enter Try.func56, Try.ntmps56
    go_wp2_with fail
    refine (HE.out _).mono ?_
    rintro e w1 (⟨t1, en1, v1, hen1, hen2, hr1, rfl, ht1, hb1⟩ | ⟨hno, rfl, hb1⟩)
    · have hne : en1 ≠ s.size := by
        intro he
        subst he
        rw [drop_end s s.size (by omega)] at hr1
        exact HN.out _ hr1
      have e1 : ((en1 : Int) != (s.size : Int)) = true := by rw [bne_iff_ne]; omega
      clear hr1 hne ht1
      go_wp2
      go_ret2
      exact ⟨rfl, hb1⟩
    · have e1 : ((-1 : Int) != (s.size : Int)) = true := by rw [bne_iff_ne]; omega
      clear hno
      go_wp2
      go_ret2
      exact ⟨rfl, hb1⟩
  · clear h
    have hge : (25 : Int) < (s.size : Int) := by omega
    go_enter Try.func56, Try.ntmps56
    go_wp2
    go_ret2
    exact ⟨rfl, Below.refl _ _⟩
theorem isBinI_yes (t : Tr) (hn : t.nodes ≤ 8) (w : World) : Calls Try.prog 17 #[.string (toB t.txt)] w fun e w' => e = .returned (.bool true) ∧ Below w.heap.size w w' := by
  go_enter Try.func17, Try.ntmps17
  go_wp2_with fail
  refine (parse_yes t hn _).mono ?_
  rintro e w1 ⟨v, rfl, _, hb⟩
  go_wp2_with fail
  go_ret
  exact ⟨rfl, hb⟩
theorem isBinI_no (s : ByteArray) (hs : s.size ≤ 1048576) (h : ¬ Bin s) (w : World) : Calls Try.prog 17 #[.string s] w fun e w' => e = .returned (.bool false) ∧ Below w.heap.size w w' := by
  have HP := Lib.hid (fun w => parse_no s hs h w)
  clear h
  go_enter Try.func17, Try.ntmps17
  go_wp2_with fail
  refine (HP.out _).mono ?_
  rintro e w1 ⟨rfl, hb⟩
  go_wp2_with fail
  go_ret
  exact ⟨rfl, hb⟩
theorem isBinS_yes_b (t : Tr) (hn : t.nodes ≤ 8) (w : World) : Calls Try.prog 16 #[.string (toB t.txt)] w fun e w' => e = .returned (.bool true) ∧ Below w.heap.size w w' := to_below (isBinS_yes t hn w)
theorem isBinS_no_b (s : ByteArray) (hs : s.size ≤ 1048576) (h : ¬ Bin s) (w : World) : Calls Try.prog 16 #[.string s] w fun e w' => e = .returned (.bool false) ∧ Below w.heap.size w w' := to_below (isBinS_no s hs h w)
set_option maxRecDepth 100000 in
set_option maxHeartbeats 1000000 in
theorem law_FnExactIsBinary (s : ByteArray) (w : World) (hs : s.size ≤ maxLen) : Calls Try.prog 3 #[.string s] w fun e w' => e = .returned (.bool true) ∧ Below w.heap.size w w' := by
  unfold maxLen at hs
  by_cases hb : s.size ≤ 1048576
  · by_cases hB : Bin s
    · obtain ⟨t, hst, hn⟩ := hB
      subst hst
      have HS := Lib.hid (isBinS_yes_b t hn)
      have HI := Lib.hid (isBinI_yes t hn)
      obtain ⟨x, hx⟩ : ∃ x, x = toB t.txt := ⟨_, rfl⟩
      rw [← hx] at HS HI hb ⊢
      clear hx hs
      go_enter Try.func3, Try.ntmps3
      go_wp2_with fail
      refine (HS.out _).mono ?_
      rintro e w1 ⟨rfl, h1⟩
      go_wp2_with fail
      refine (HI.out _).mono ?_
      rintro e w2 ⟨rfl, h2⟩
      go_wp2_with fail
      go_ret
      exact ⟨rfl, below_then h1 h2⟩
    · have HS := Lib.hid (isBinS_no_b s hb hB)
      have HI := Lib.hid (isBinI_no s hb hB)
      clear hB
      go_enter Try.func3, Try.ntmps3
      go_wp2_with fail
      refine (HS.out _).mono ?_
      rintro e w1 ⟨rfl, h1⟩
      go_wp2_with fail
      refine (HI.out _).mono ?_
      rintro e w2 ⟨rfl, h2⟩
      go_wp2_with fail
      go_ret
      exact ⟨rfl, below_then h1 h2⟩
  · go_enter Try.func3, Try.ntmps3
    go_wp2
    go_ret
    exact ⟨rfl, Below.refl _ _⟩

theorem nodesS_yes (t : Tr) (hn : t.nodes ≤ 8) (w : World) : Calls Try.prog 18 #[.string (toB t.txt)] w fun e w' => e = .returned (.int .i64 (t.nodes : Int)) ∧ Below w.heap.size w w' := by
  have hsz : (toB t.txt).size = 3 * t.nodes + 1 := by rw [toB_size, len_txt]
  have HB := Lib.hid (isBinS_yes t hn)
  obtain ⟨x, hx⟩ : ∃ x, x = toB t.txt := ⟨_, rfl⟩
  rw [← hx] at hsz HB ⊢
  clear hx
  go_enter Try.func18, Try.ntmps18
  go_wp2_with (go_at_call 16; refine (HB.out _).mono ?_; rintro e w' ⟨rfl, rfl⟩)
  go_ret
  exact ⟨ret_int (by omega), Below.refl _ _⟩
theorem nodesS_no (s : ByteArray) (hs : s.size ≤ 1048576) (h : ¬ Bin s) (w : World) : Calls Try.prog 18 #[.string s] w fun e w' => e = .returned (.int .i64 (-1)) ∧ Below w.heap.size w w' := by
  have HB := Lib.hid (isBinS_no s hs h)
  clear h
  go_enter Try.func18, Try.ntmps18
  go_wp2_with (go_at_call 16; refine (HB.out _).mono ?_; rintro e w' ⟨rfl, rfl⟩)
  go_ret
  exact ⟨rfl, Below.refl _ _⟩
theorem nodesI_yes (t : Tr) (hn : t.nodes ≤ 8) (w : World) : Calls Try.prog 19 #[.string (toB t.txt)] w fun e w' => e = .returned (.int .i64 (t.nodes : Int)) ∧ Below w.heap.size w w' := by
  go_enter Try.func19, Try.ntmps19
  go_wp2_with fail
  refine (parse_yes t hn _).mono ?_
  rintro e w1 ⟨v, rfl, ht, hb⟩
  obtain ⟨p1, rfl⟩ := ht.form
  go_wp2_with fail
  refine (nodesT t (by omega) _ _ ht).mono ?_
  rintro e w2 ⟨rfl, q, rfl⟩
  go_wp2_with fail
  go_ret
  exact ⟨rfl, below_drewN hb _⟩
theorem nodesI_no (s : ByteArray) (hs : s.size ≤ 1048576) (h : ¬ Bin s) (w : World) : Calls Try.prog 19 #[.string s] w fun e w' => e = .returned (.int .i64 (-1)) ∧ Below w.heap.size w w' := by
  have HP := Lib.hid (fun w => parse_no s hs h w)
  clear h
  go_enter Try.func19, Try.ntmps19
  go_wp2_with fail
  refine (HP.out _).mono ?_
  rintro e w1 ⟨rfl, hb⟩
  go_wp2_with fail
  go_ret
  exact ⟨rfl, hb⟩
set_option maxRecDepth 100000 in
set_option maxHeartbeats 1000000 in
theorem law_FnExactNodesOf (s : ByteArray) (w : World) (hs : s.size ≤ maxLen) : Calls Try.prog 4 #[.string s] w fun e w' => e = .returned (.bool true) ∧ Below w.heap.size w w' := by
  unfold maxLen at hs
  by_cases hb : s.size ≤ 1048576
  · by_cases hB : Bin s
    · obtain ⟨t, hst, hn⟩ := hB
      subst hst
      have HS := Lib.hid (nodesS_yes t hn)
      have HI := Lib.hid (nodesI_yes t hn)
      obtain ⟨x, hx⟩ : ∃ x, x = toB t.txt := ⟨_, rfl⟩
      rw [← hx] at HS HI hb ⊢
      clear hx hs
      go_enter Try.func4, Try.ntmps4
      go_wp2_with fail
      refine (HS.out _).mono ?_
      rintro e w1 ⟨rfl, h1⟩
      go_wp2_with fail
      refine (HI.out _).mono ?_
      rintro e w2 ⟨rfl, h2⟩
      go_wp2_with fail
      go_ret
      exact ⟨rfl, below_then h1 h2⟩
    · have HS := Lib.hid (nodesS_no s hb hB)
      have HI := Lib.hid (nodesI_no s hb hB)
      clear hB
      go_enter Try.func4, Try.ntmps4
      go_wp2_with fail
      refine (HS.out _).mono ?_
      rintro e w1 ⟨rfl, h1⟩
      go_wp2_with fail
      refine (HI.out _).mono ?_
      rintro e w2 ⟨rfl, h2⟩
      go_wp2_with fail
      go_ret
      exact ⟨rfl, below_then h1 h2⟩
  · go_enter Try.func4, Try.ntmps4
    go_wp2
    go_ret
    exact ⟨rfl, Below.refl _ _⟩

theorem pobS_yes (t : Tr) (hn : t.nodes ≤ 8) (w : World) : Calls Try.prog 26 #[.string (toB t.txt)] w fun e w' => e = .returned (.tuple #[.string (toB t.path), .bool true]) ∧ Below w.heap.size w w' := by
  go_enter Try.func26, Try.ntmps26
  go_wp2_with fail
  refine (isBinS_yes t hn _).mono ?_
  rintro e w1 ⟨rfl, rfl⟩
  go_wp2_with fail
  refine (l6PathS t hn _).mono ?_
  rintro e w2 ⟨rfl, q, rfl⟩
  go_wp2_with fail
  go_ret2
  exact ⟨rfl, below_drewN (Below.refl _ _) _⟩
theorem pobS_no (s : ByteArray) (hs : s.size ≤ 1048576) (h : ¬ Bin s) (w : World) : Calls Try.prog 26 #[.string s] w fun e w' => e = .returned (.tuple #[.string ByteArray.empty, .bool false]) ∧ Below w.heap.size w w' := by
  have HB := Lib.hid (isBinS_no s hs h)
  clear h
  go_enter Try.func26, Try.ntmps26
  go_wp2_with (go_at_call 16; refine (HB.out _).mono ?_; rintro e w' ⟨rfl, rfl⟩)
  go_ret2
  exact ⟨rfl, Below.refl _ _⟩
theorem pobI_yes (t : Tr) (hn : t.nodes ≤ 8) (w : World) : Calls Try.prog 27 #[.string (toB t.txt)] w fun e w' => e = .returned (.tuple #[.string (toB t.path), .bool true]) ∧ Below w.heap.size w w' := by
  go_enter Try.func27, Try.ntmps27
  go_wp2_with fail
  refine (parse_yes t hn _).mono ?_
  rintro e w1 ⟨v, rfl, ht, hb⟩
  obtain ⟨p1, rfl⟩ := ht.form
  go_wp2_with fail
  refine (pathT t (by omega) _ _ ht).mono ?_
  rintro e w2 ⟨rfl, q, rfl⟩
  go_wp2_with fail
  go_ret2
  exact ⟨rfl, below_drewN hb _⟩
theorem pobI_no (s : ByteArray) (hs : s.size ≤ 1048576) (h : ¬ Bin s) (w : World) : Calls Try.prog 27 #[.string s] w fun e w' => e = .returned (.tuple #[.string ByteArray.empty, .bool false]) ∧ Below w.heap.size w w' := by
  have HP := Lib.hid (fun w => parse_no s hs h w)
  have HT := Lib.hid (fun w => pathT .lf (by decide) w (.pointer none) rfl)
  clear h
  go_enter Try.func27, Try.ntmps27
  go_wp2_with fail
  refine (HP.out _).mono ?_
  rintro e w1 ⟨rfl, hb⟩
  go_wp2_with fail
  refine (HT.out _).mono ?_
  rintro e w2 ⟨rfl, q, rfl⟩
  go_wp2_with fail
  go_ret2
  exact ⟨rfl, below_drewN hb _⟩
set_option maxRecDepth 100000 in
set_option maxHeartbeats 1000000 in
theorem law_FnExactPathOfBinary (s : ByteArray) (w : World) (hs : s.size ≤ maxLen) : Calls Try.prog 7 #[.string s] w fun e w' => e = .returned (.bool true) ∧ Below w.heap.size w w' := by
  unfold maxLen at hs
  by_cases hb : s.size ≤ 1048576
  · by_cases hB : Bin s
    · obtain ⟨t, hst, hn⟩ := hB
      subst hst
      have HS := Lib.hid (pobS_yes t hn)
      have HI := Lib.hid (pobI_yes t hn)
      obtain ⟨x, hx⟩ : ∃ x, x = toB t.txt := ⟨_, rfl⟩
      rw [← hx] at HS HI hb ⊢
      clear hx hs
      go_enter Try.func7, Try.ntmps7
      go_wp2_with fail
      refine (HS.out _).mono ?_
      rintro e w1 ⟨rfl, h1⟩
      go_wp2_with fail
      refine (HI.out _).mono ?_
      rintro e w2 ⟨rfl, h2⟩
      go_wp2_with fail
      go_ret
      exact ⟨rfl, below_then h1 h2⟩
    · have HS := Lib.hid (pobS_no s hb hB)
      have HI := Lib.hid (pobI_no s hb hB)
      clear hB
      go_enter Try.func7, Try.ntmps7
      go_wp2_with fail
      refine (HS.out _).mono ?_
      rintro e w1 ⟨rfl, h1⟩
      go_wp2_with fail
      refine (HI.out _).mono ?_
      rintro e w2 ⟨rfl, h2⟩
      go_wp2_with fail
      go_ret
      exact ⟨rfl, below_then h1 h2⟩
  · go_enter Try.func7, Try.ntmps7
    go_wp2
    go_ret
    exact ⟨rfl, Below.refl _ _⟩

theorem mbS_yes (t : Tr) (hn : t.nodes ≤ 8) (w : World) : Calls Try.prog 28 #[.string (toB t.txt)] w fun e w' => e = .returned (.tuple #[.string (toB t.mir.txt), .bool true]) ∧ Below w.heap.size w w' := by
  go_enter Try.func28, Try.ntmps28
  go_wp2_with fail
  refine (isBinS_yes t hn _).mono ?_
  rintro e w1 ⟨rfl, rfl⟩
  go_wp2_with fail
  refine (l6MirrorS t hn _).mono ?_
  rintro e w2 ⟨rfl, q, rfl⟩
  go_wp2_with fail
  go_ret2
  exact ⟨rfl, below_drewN (Below.refl _ _) _⟩
theorem mbS_no (s : ByteArray) (hs : s.size ≤ 1048576) (h : ¬ Bin s) (w : World) : Calls Try.prog 28 #[.string s] w fun e w' => e = .returned (.tuple #[.string ByteArray.empty, .bool false]) ∧ Below w.heap.size w w' := by
  have HB := Lib.hid (isBinS_no s hs h)
  clear h
  go_enter Try.func28, Try.ntmps28
  go_wp2_with (go_at_call 16; refine (HB.out _).mono ?_; rintro e w' ⟨rfl, rfl⟩)
  go_ret2
  exact ⟨rfl, Below.refl _ _⟩
theorem mbI_yes (t : Tr) (hn : t.nodes ≤ 8) (w : World) : Calls Try.prog 29 #[.string (toB t.txt)] w fun e w' => e = .returned (.tuple #[.string (toB t.mir.txt), .bool true]) ∧ Below w.heap.size w w' := by
  have hm : t.mir.nodes ≤ 1000 := by rw [nodes_mir]; omega
  go_enter Try.func29, Try.ntmps29
  go_wp2_with fail
  refine (parse_yes t hn _).mono ?_
  rintro e w1 ⟨v, rfl, ht, hb⟩
  obtain ⟨p1, rfl⟩ := ht.form
  go_wp2_with fail
  refine (mirrorT t _ _ ht).mono ?_
  rintro e w2 ⟨v2, rfl, ht2, hb2⟩
  obtain ⟨p2, rfl⟩ := ht2.form
  go_wp2_with fail
  refine (textT t.mir hm _ _ ht2).mono ?_
  rintro e w3 ⟨rfl, q, rfl⟩
  go_wp2_with fail
  go_ret2
  exact ⟨rfl, below_drewN (below_then hb hb2) _⟩
theorem mbI_no (s : ByteArray) (hs : s.size ≤ 1048576) (h : ¬ Bin s) (w : World) : Calls Try.prog 29 #[.string s] w fun e w' => e = .returned (.tuple #[.string ByteArray.empty, .bool false]) ∧ Below w.heap.size w w' := by
  have HP := Lib.hid (fun w => parse_no s hs h w)
  clear h
  go_enter Try.func29, Try.ntmps29
  go_wp2_with fail
  refine (HP.out _).mono ?_
  rintro e w1 ⟨rfl, hb⟩
  go_wp2_with fail
  go_ret2
  exact ⟨rfl, hb⟩
set_option maxRecDepth 100000 in
set_option maxHeartbeats 1000000 in
theorem law_FnExactMirrorBinary (s : ByteArray) (w : World) (hs : s.size ≤ maxLen) : Calls Try.prog 8 #[.string s] w fun e w' => e = .returned (.bool true) ∧ Below w.heap.size w w' := by
  unfold maxLen at hs
  by_cases hb : s.size ≤ 1048576
  · by_cases hB : Bin s
    · obtain ⟨t, hst, hn⟩ := hB
      subst hst
      have HS := Lib.hid (mbS_yes t hn)
      have HI := Lib.hid (mbI_yes t hn)
      obtain ⟨x, hx⟩ : ∃ x, x = toB t.txt := ⟨_, rfl⟩
      rw [← hx] at HS HI hb ⊢
      clear hx hs
      go_enter Try.func8, Try.ntmps8
      go_wp2_with fail
      refine (HS.out _).mono ?_
      rintro e w1 ⟨rfl, h1⟩
      go_wp2_with fail
      refine (HI.out _).mono ?_
      rintro e w2 ⟨rfl, h2⟩
      go_wp2_with fail
      go_ret
      exact ⟨rfl, below_then h1 h2⟩
    · have HS := Lib.hid (mbS_no s hb hB)
      have HI := Lib.hid (mbI_no s hb hB)
      clear hB
      go_enter Try.func8, Try.ntmps8
      go_wp2_with fail
      refine (HS.out _).mono ?_
      rintro e w1 ⟨rfl, h1⟩
      go_wp2_with fail
      refine (HI.out _).mono ?_
      rintro e w2 ⟨rfl, h2⟩
      go_wp2_with fail
      go_ret
      exact ⟨rfl, below_then h1 h2⟩
  · go_enter Try.func8, Try.ntmps8
    go_wp2
    go_ret
    exact ⟨rfl, Below.refl _ _⟩
end Go.Proofs.Ythbfockobnfomaa
