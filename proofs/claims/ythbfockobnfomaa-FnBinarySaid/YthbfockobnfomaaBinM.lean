/-
  PartsOfBinary, BinaryOf, LeafLevels, HeightOf of both packages, and their laws, walked.
-/
import Derived.Test.YthbfockobnfomaaBinL
namespace Go.Proofs.Ythbfockobnfomaa
open Go.RowKit
def pA : Tr → ByteArray
  | .lf => ByteArray.empty
  | .nd a _ => toB a.txt
def pB : Tr → ByteArray
  | .lf => ByteArray.empty
  | .nd _ b => toB b.txt
def pC : Tr → Bool
  | .lf => false
  | .nd _ _ => true

set_option maxRecDepth 100000 in
set_option maxHeartbeats 1000000 in
theorem partsS_yes (t : Tr) (hn : t.nodes ≤ 8) (w : World) : Calls Try.prog 20 #[.string (toB t.txt)] w fun e w' => e = .returned (.tuple #[.string (pA t), .string (pB t), .bool (pC t)]) ∧ Below w.heap.size w w' := by
  cases t with
  | lf =>
    have HB := Lib.hid (isBinS_yes .lf hn)
    have e1 := txt_dot_yes
    obtain ⟨x, hx⟩ : ∃ x, x = toB (Tr.lf).txt := ⟨_, rfl⟩
    rw [← hx] at e1 HB ⊢
    clear hx
    go_enter Try.func20, Try.ntmps20
    go_wp2_with (go_at_call 16; refine (HB.out _).mono ?_; rintro e w' ⟨rfl, rfl⟩)
    go_ret3
    exact ⟨rfl, Below.refl _ _⟩
  | nd a b =>
    have HB := Lib.hid (isBinS_yes _ hn)
    simp only [Tr.nodes] at hn
    have hsz := nd_txt_size a b
    have hla := len_txt a
    have hlb := len_txt b
    have e0 := txt_dot_no a b
    have HE := Lib.hid (fun w => endS_at (toB (Tr.nd a b).txt) 1 (a.txt.length + 1) a w (by omega) (by omega) (by omega) (nd_txt_reads a b))
    have F1 := Lib.hid (nd_txt_l a b)
    have F2 := Lib.hid (nd_txt_r a b ((toB (Tr.nd a b).txt).size - 1) (by omega))
    obtain ⟨s, hs⟩ : ∃ s, s = toB (Tr.nd a b).txt := ⟨_, rfl⟩
    obtain ⟨m, hm⟩ : ∃ m, m = a.txt.length + 1 := ⟨_, rfl⟩
    rw [← hs] at hsz e0 HE F1 F2 HB ⊢
    rw [← hm] at hsz HE F1 F2
    have k1 : (1 : Int) ≤ (m : Int) := by omega
    have k2 : (m : Int) ≤ (s.size : Int) := by omega
    have k3 : (m : Int) ≤ (s.size : Int) - 1 := by omega
    have k4 : (s.size : Int) - 1 ≤ (s.size : Int) := by omega
    have k5 : (0 : Int) ≤ (s.size : Int) - 1 := by omega
    have k6 : IntKind.i64.wrap ((s.size : Int) - 1) = (s.size : Int) - 1 := IntWalk.i64_in _ ⟨by omega, by omega⟩
    have k7 : ((s.size : Int) - 1).toNat = s.size - 1 := by omega
    have HW : Hid (Value.tuple #[.string (pA (Tr.nd a b)), .string (pB (Tr.nd a b)), .bool (pC (Tr.nd a b))] = .tuple #[.string (s.extract 1 m), .string (s.extract m (s.size - 1)), .bool true]) := by
      show _ = _
      rw [F1.out, F2.out]; rfl
    clear hs hm hsz hla hlb
    go_enter Try.func20, Try.ntmps20
    go_wp2_with (first | (go_at_call 16; refine (HB.out _).mono ?_; rintro e w' ⟨rfl, rfl⟩) | (go_at_call 55; refine (HE.out _).mono ?_; rintro e w' ⟨rfl, rfl⟩))
    go_quiet (fail)
    go_wp2
    go_ret3
    exact ⟨by rw [HW.out]; rfl, below_drewN (Below.refl _ _) _⟩
theorem partsS_no (s : ByteArray) (hs : s.size ≤ 1048576) (h : ¬ Bin s) (w : World) : Calls Try.prog 20 #[.string s] w fun e w' => e = .returned (.tuple #[.string ByteArray.empty, .string ByteArray.empty, .bool false]) ∧ Below w.heap.size w w' := by
  have HB := Lib.hid (isBinS_no s hs h)
  clear h
  go_enter Try.func20, Try.ntmps20
  go_wp2_with (go_at_call 16; refine (HB.out _).mono ?_; rintro e w' ⟨rfl, rfl⟩)
  go_ret3
  exact ⟨rfl, Below.refl _ _⟩
set_option maxRecDepth 100000 in
set_option maxHeartbeats 1000000 in
theorem partsI_yes (t : Tr) (hn : t.nodes ≤ 8) (w : World) : Calls Try.prog 21 #[.string (toB t.txt)] w fun e w' => e = .returned (.tuple #[.string (pA t), .string (pB t), .bool (pC t)]) ∧ Below w.heap.size w w' := by
  have HP := Lib.hid (parse_yes t hn)
  cases t with
  | lf =>
    go_enter Try.func21, Try.ntmps21
    go_wp2_with fail
    refine (HP.out _).mono ?_
    rintro e w1 ⟨v, rfl, ht, hb⟩
    obtain rfl : v = .pointer none := ht
    go_wp2_with fail
    go_ret3
    exact ⟨rfl, hb⟩
  | nd a b =>
    simp only [Tr.nodes] at hn
    have HA := Lib.hid (textT a (by omega))
    have HC := Lib.hid (textT b (by omega))
    go_enter Try.func21, Try.ntmps21
    go_wp2_with fail
    refine (HP.out _).mono ?_
    rintro e w1 ⟨v, rfl, ht, hb⟩
    obtain ⟨q, x, y, rfl, hlt, h0, h1, ha, hc⟩ := ht
    have HA2 := Lib.hid (fun n => HA.out (w1.drewN n) x (ha.drewN n))
    have HC2 := Lib.hid (fun n => HC.out (w1.drewN n) y (hc.drewN n))
    clear ha hc
    go_wp2_with fail
    go_quiet ((go_at_call 58; first | (with_reducible exact Calls.quiet_of (HA2.out _)) | (with_reducible exact Calls.quiet_of (HC2.out _))))
    go_wp2_with fail
    go_ret3
    exact ⟨rfl, below_drewN hb _⟩
theorem partsI_no (s : ByteArray) (hs : s.size ≤ 1048576) (h : ¬ Bin s) (w : World) : Calls Try.prog 21 #[.string s] w fun e w' => e = .returned (.tuple #[.string ByteArray.empty, .string ByteArray.empty, .bool false]) ∧ Below w.heap.size w w' := by
  have HP := Lib.hid (fun w => parse_no s hs h w)
  clear h
  go_enter Try.func21, Try.ntmps21
  go_wp2_with fail
  refine (HP.out _).mono ?_
  rintro e w1 ⟨rfl, hb⟩
  go_wp2_with fail
  go_ret3
  exact ⟨rfl, hb⟩
set_option maxRecDepth 100000 in
set_option maxHeartbeats 1000000 in
theorem law_FnExactPartsOfBinary (s : ByteArray) (w : World) (hs : s.size ≤ maxLen) : Calls Try.prog 5 #[.string s] w fun e w' => e = .returned (.bool true) ∧ Below w.heap.size w w' := by
  unfold maxLen at hs
  by_cases hb : s.size ≤ 1048576
  · by_cases hB : Bin s
    · obtain ⟨t, hst, hn⟩ := hB
      subst hst
      have HS := Lib.hid (partsS_yes t hn)
      have HI := Lib.hid (partsI_yes t hn)
      obtain ⟨x, hx⟩ : ∃ x, x = toB t.txt := ⟨_, rfl⟩
      rw [← hx] at HS HI hb ⊢
      clear hx hs
      go_enter Try.func5, Try.ntmps5
      go_wp2_with fail
      refine (HS.out _).mono ?_
      rintro e w1 ⟨rfl, h1⟩
      go_wp2_with fail
      refine (HI.out _).mono ?_
      rintro e w2 ⟨rfl, h2⟩
      go_wp2_with fail
      go_ret
      exact ⟨rfl, below_then h1 h2⟩
    · have HS := Lib.hid (partsS_no s hb hB)
      have HI := Lib.hid (partsI_no s hb hB)
      clear hB
      go_enter Try.func5, Try.ntmps5
      go_wp2_with fail
      refine (HS.out _).mono ?_
      rintro e w1 ⟨rfl, h1⟩
      go_wp2_with fail
      refine (HI.out _).mono ?_
      rintro e w2 ⟨rfl, h2⟩
      go_wp2_with fail
      go_ret
      exact ⟨rfl, below_then h1 h2⟩
  · go_enter Try.func5, Try.ntmps5
    go_wp2
    go_ret
    exact ⟨rfl, Below.refl _ _⟩

theorem path_of_dyck {s : ByteArray} (h : dyck s.data.toList = true) : ∃ t : Tr, s = toB t.path ∧ t.nodes ≤ 8 := by
  obtain ⟨t, ht, hn⟩ := tree_of_dyck h
  exact ⟨t, by rw [ht, toB_of], hn⟩
theorem boS_yes (t : Tr) (hn : t.nodes ≤ 8) (w : World) : Calls Try.prog 30 #[.string (toB t.path)] w fun e w' => e = .returned (.tuple #[.string (toB t.txt), .bool true]) ∧ Below w.heap.size w w' := by
  have HD := Lib.hid (fun w => isDyckS (toB t.path) w (by rw [toB_size, len_path]; omega))
  rw [toB_list, path_dyck t hn] at HD
  go_enter Try.func30, Try.ntmps30
  go_wp2_with fail
  refine (HD.out _).mono ?_
  rintro e w1 ⟨rfl, rfl⟩
  go_wp2_with fail
  refine (l6BinaryS t hn _).mono ?_
  rintro e w2 ⟨rfl, q, rfl⟩
  go_wp2_with fail
  go_ret2
  exact ⟨rfl, below_drewN (Below.refl _ _) _⟩
theorem boS_no (s : ByteArray) (hs : s.size ≤ 1048576) (h : ¬ dyck s.data.toList = true) (w : World) : Calls Try.prog 30 #[.string s] w fun e w' => e = .returned (.tuple #[.string ByteArray.empty, .bool false]) ∧ Below w.heap.size w w' := by
  have HD := Lib.hid (fun w => isDyckS s w hs)
  rw [show dyck s.data.toList = false by simpa using h] at HD
  clear h
  go_enter Try.func30, Try.ntmps30
  go_wp2_with (go_at_call 67; refine (HD.out _).mono ?_; rintro e w' ⟨rfl, rfl⟩)
  go_ret2
  exact ⟨rfl, Below.refl _ _⟩
theorem boI_yes (t : Tr) (hn : t.nodes ≤ 8) (w : World) : Calls Try.prog 31 #[.string (toB t.path)] w fun e w' => e = .returned (.tuple #[.string (toB t.txt), .bool true]) ∧ Below w.heap.size w w' := by
  have HD := Lib.hid (fun w => isDyckI (toB t.path) w (by rw [toB_size, len_path]; omega))
  rw [toB_list, path_dyck t hn] at HD
  go_enter Try.func31, Try.ntmps31
  go_wp2_with fail
  refine (HD.out _).mono ?_
  rintro e w1 ⟨rfl, hb1⟩
  go_wp2_with fail
  refine (treeOfPathI t hn _).mono ?_
  rintro e w2 ⟨v, rfl, ht, hb2⟩
  obtain ⟨p, rfl⟩ := ht.form
  go_wp2_with fail
  refine (textT t (by omega) _ _ ht).mono ?_
  rintro e w3 ⟨rfl, q, rfl⟩
  go_wp2_with fail
  go_ret2
  exact ⟨rfl, below_drewN (below_then hb1 hb2) _⟩
theorem boI_no (s : ByteArray) (hs : s.size ≤ 1048576) (h : ¬ dyck s.data.toList = true) (w : World) : Calls Try.prog 31 #[.string s] w fun e w' => e = .returned (.tuple #[.string ByteArray.empty, .bool false]) ∧ Below w.heap.size w w' := by
  have HD := Lib.hid (fun w => isDyckI s w hs)
  rw [show dyck s.data.toList = false by simpa using h] at HD
  clear h
  go_enter Try.func31, Try.ntmps31
  go_wp2_with fail
  refine (HD.out _).mono ?_
  rintro e w1 ⟨rfl, hb1⟩
  go_wp2_with fail
  go_ret2
  exact ⟨rfl, hb1⟩
set_option maxRecDepth 100000 in
set_option maxHeartbeats 1000000 in
theorem law_FnExactBinaryOf (s : ByteArray) (w : World) (hs : s.size ≤ maxLen) : Calls Try.prog 9 #[.string s] w fun e w' => e = .returned (.bool true) ∧ Below w.heap.size w w' := by
  unfold maxLen at hs
  by_cases hb : s.size ≤ 1048576
  · by_cases hB : dyck s.data.toList = true
    · obtain ⟨t, hst, hn⟩ := path_of_dyck hB
      subst hst
      have HS := Lib.hid (boS_yes t hn)
      have HI := Lib.hid (boI_yes t hn)
      obtain ⟨x, hx⟩ : ∃ x, x = toB t.path := ⟨_, rfl⟩
      rw [← hx] at HS HI hb ⊢
      clear hx hs
      go_enter Try.func9, Try.ntmps9
      go_wp2_with fail
      refine (HS.out _).mono ?_
      rintro e w1 ⟨rfl, h1⟩
      go_wp2_with fail
      refine (HI.out _).mono ?_
      rintro e w2 ⟨rfl, h2⟩
      go_wp2_with fail
      go_ret
      exact ⟨rfl, below_then h1 h2⟩
    · have HS := Lib.hid (boS_no s hb hB)
      have HI := Lib.hid (boI_no s hb hB)
      clear hB
      go_enter Try.func9, Try.ntmps9
      go_wp2_with fail
      refine (HS.out _).mono ?_
      rintro e w1 ⟨rfl, h1⟩
      go_wp2_with fail
      refine (HI.out _).mono ?_
      rintro e w2 ⟨rfl, h2⟩
      go_wp2_with fail
      go_ret
      exact ⟨rfl, below_then h1 h2⟩
  · go_enter Try.func9, Try.ntmps9
    go_wp2
    go_ret
    exact ⟨rfl, Below.refl _ _⟩

/-- The levels of the full stops, read off a text from the level h on. -/
def scL : Int → List UInt8 → List Int
  | _, [] => []
  | h, c :: r => if c = 40 then scL (h + 1) r else if c = 41 then scL (h - 1) r else h :: scL h r
theorem scL_tree (t : Tr) : ∀ (d : Nat) (r : List UInt8), scL (d : Int) (t.txt ++ r) = t.lev d ++ scL (d : Int) r := by
  induction t with
  | lf => intro d r; rfl
  | nd a b ha hb =>
    intro d r
    have e1 : scL (d : Int) ((Tr.nd a b).txt ++ r) = scL ((d + 1 : Nat) : Int) (a.txt ++ (b.txt ++ (41 :: r))) := by
      show scL (d : Int) (40 :: (a.txt ++ (b.txt ++ [41])) ++ r) = _
      simp [scL]
    have e2 : scL ((d + 1 : Nat) : Int) (41 :: r) = scL (d : Int) r := by
      have e3 : scL ((d + 1 : Nat) : Int) (41 :: r) = scL (((d + 1 : Nat) : Int) - 1) r := by simp [scL]
      rw [e3]
      congr 1; omega
    rw [e1, ha, hb, e2]
    simp [Tr.lev]
theorem scL_txt (t : Tr) : scL 0 t.txt = t.lev 0 := by
  have := scL_tree t 0 []
  rw [List.append_nil] at this
  simpa [scL] using this

set_option maxRecDepth 100000 in
set_option maxHeartbeats 1000000 in
theorem llS_yes (t : Tr) (hn : t.nodes ≤ 8) (w : World) : Calls Try.prog 34 #[.string (toB t.txt)] w (RetI (t.lev 0) w) := by
  have hlit := Buf.lit (w0 := w) (e := 3) (Below.refl _ w) [] (by decide)
  have hsz : (toB t.txt).size ≤ 25 := by rw [toB_size, len_txt]; omega
  have HB := Lib.hid (isBinS_yes t hn)
  have HL : Hid (scL 0 (toB t.txt).data.toList = t.lev 0) := scL_txt t
  obtain ⟨s, hs⟩ : ∃ s, s = toB t.txt := ⟨_, rfl⟩
  rw [← hs] at hsz HB HL ⊢
  clear hs
  go_enter Try.func34, Try.ntmps34
  go_wp2_with fail
  go_loopw [3, 4, 5] (fun v h i wr => ∃ (k : Nat) (d : Int) (pre : List Int), k ≤ s.size ∧ i = .int .i64 (k : Int) ∧ h = .int .i64 d ∧ -(k : Int) ≤ d ∧ d ≤ (k : Int) ∧ pre.length ≤ k ∧ Hid (pre ++ scL d (s.data.toList.drop k) = t.lev 0) ∧ Buf w wr 3 v (pre.map (Value.int .i64))) (fun _ _ i _ => s.size - (intOf i).toNat)
  case atStart => exact ⟨0, 0, [], by omega, rfl, rfl, by omega, by omega, by simp, HL.out, hlit⟩
  case round =>
    obtain ⟨k, d, pre, hk, rfl, rfl, hd1, hd2, hpl, HE, hBr⟩ := hrel
    by_cases hlt : k < s.size
    · have hdc := drop_cons s k hlt
      have hlt' : (k : Int) < (s.size : Int) := by omega
      have hxl : (pre.map (Value.int .i64)).length ≤ 30 := by simp; omega
      have hE := HE.out
      rw [hdc] at hE
      simp only [scL] at hE
      by_cases h1 : s[k] = 40
      · have e1 := byte_eq 40 40 h1
        rw [if_pos h1] at hE
        have HE2 := Lib.hid hE
        clear hE hdc h1 HE
        go_wp2_with (go_at_call 16; refine (HB.out _).mono ?_; rintro e w' ⟨rfl, rfl⟩)
        go_roundw
        case rel => exact ⟨k + 1, d + 1, pre, by omega, by go_num, rfl, by omega, by omega, by omega, HE2.out, hBr⟩
        case measure => simp [intOf]; omega
      · have e1 := byte_ne 40 40 h1
        rw [if_neg h1] at hE
        by_cases h2 : s[k] = 41
        · have e2 := byte_eq 41 41 h2
          rw [if_pos h2] at hE
          have HE2 := Lib.hid hE
          clear hE hdc h1 h2 HE
          go_wp2_with (go_at_call 16; refine (HB.out _).mono ?_; rintro e w' ⟨rfl, rfl⟩)
          go_roundw
          case rel => exact ⟨k + 1, d - 1, pre, by omega, by go_num, rfl, by omega, by omega, by omega, HE2.out, hBr⟩
          case measure => simp [intOf]; omega
        · have e2 := byte_ne 41 41 h2
          rw [if_neg h2] at hE
          have HE2 : Hid ((pre ++ [d]) ++ scL d (s.data.toList.drop (k + 1)) = t.lev 0) := by show _ = _; rw [← hE]; simp
          clear hE hdc h1 h2 HE
          go_wp2_with (first | (go_at_call 16; refine (HB.out _).mono ?_; rintro e w' ⟨rfl, rfl⟩) | (at_builtin; refine buf_append1 elInt rfl _ _ rfl hBr rfl rfl rfl (by omega) ?_; intro v2 w2 hB2 _ _))
          go_roundw
          case rel => exact ⟨k + 1, d, pre ++ [d], by omega, by go_num, rfl, by omega, by omega, by simp; omega, HE2, by rw [List.map_append]; exact hB2⟩
          case measure => simp [intOf]; omega
    · obtain rfl : k = s.size := by omega
      have hF : pre = t.lev 0 := by
        have := HE.out
        rw [drop_end s s.size (by omega)] at this
        simpa [scL] using this
      rw [hF] at hBr
      clear hF HE
      go_wp2_with (go_at_call 16; refine (HB.out _).mono ?_; rintro e w' ⟨rfl, rfl⟩)
      go_ret
      exact RetI.of hBr
set_option maxRecDepth 100000 in
theorem llS_no (s : ByteArray) (hs : s.size ≤ 1048576) (h : ¬ Bin s) (w : World) : Calls Try.prog 34 #[.string s] w (RetI [] w) := by
  have hlit := Buf.lit (w0 := w) (e := 3) (Below.refl _ w) [] (by decide)
  have HB := Lib.hid (isBinS_no s hs h)
  clear h
  go_enter Try.func34, Try.ntmps34
  go_wp2_with fail
  refine wp_loop_rounds 1 ?_
  rw [rounds_succ]
  go_wp2_with (go_at_call 16; refine (HB.out _).mono ?_; rintro e w' ⟨rfl, rfl⟩)
  all_goals
    go_ret
    exact RetI.of hlit
set_option maxRecDepth 100000 in
theorem llI_yes (t : Tr) (hn : t.nodes ≤ 8) (w : World) : Calls Try.prog 35 #[.string (toB t.txt)] w (RetI (t.lev 0) w) := by
  go_enter Try.func35, Try.ntmps35
  go_wp2_with fail
  refine (parse_yes t hn _).mono ?_
  rintro e w1 ⟨v, rfl, ht, hb⟩
  obtain ⟨p, rfl⟩ := ht.form
  have hlit := Buf.lit (w0 := w1) (e := 3) (Below.refl _ w1) [] (by decide)
  have HL := Lib.hid (levelsT t w1 _ _ _ 0 [] ht hlit (by simp; omega) (by omega))
  clear ht hlit
  go_wp2_with fail
  refine (HL.out).mono ?_
  rintro e w2 ⟨v2, rfl, hB2⟩
  go_wp2_with fail
  go_ret
  exact RetI.of (hB2.from_ hb)
theorem llI_no (s : ByteArray) (hs : s.size ≤ 1048576) (h : ¬ Bin s) (w : World) : Calls Try.prog 35 #[.string s] w (RetI [] w) := by
  have HP := Lib.hid (fun w => parse_no s hs h w)
  clear h
  go_enter Try.func35, Try.ntmps35
  go_wp2_with fail
  refine (HP.out _).mono ?_
  rintro e w1 ⟨rfl, hb⟩
  have hlit := Buf.lit (w0 := w1) (e := 3) (Below.refl _ w1) [] (by decide)
  go_wp2_with fail
  go_ret
  exact RetI.of (hlit.from_ hb)
theorem ll_law (s : ByteArray) (hs : s.size ≤ 1048576) : ∃ l : List Int, l.length ≤ 1073741824 ∧ (∀ w, Calls Try.prog 34 #[.string s] w (RetI l w)) ∧ (∀ w, Calls Try.prog 35 #[.string s] w (RetI l w)) := by
  by_cases hB : Bin s
  · obtain ⟨t, rfl, hn⟩ := hB
    exact ⟨t.lev 0, by rw [len_lev]; omega, llS_yes t hn, llI_yes t hn⟩
  · exact ⟨[], by simp, llS_no s hs hB, llI_no s hs hB⟩
set_option maxRecDepth 100000 in
set_option maxHeartbeats 1000000 in
theorem law_FnExactLeafLevels (s : ByteArray) (w : World) (hs : s.size ≤ maxLen) : Calls Try.prog 11 #[.string s] w fun e w' => e = .returned (.bool true) ∧ Below w.heap.size w w' := by
  unfold maxLen at hs
  by_cases hb : s.size ≤ 1048576
  · obtain ⟨l, hn, hS, hI⟩ := ll_law s hb
    have HS := Lib.hid hS
    have HI := Lib.hid hI
    clear hS hI
    go_enter Try.func11, Try.ntmps11
    go_wp2_with fail
    refine (HS.out _).mono ?_
    rintro e w1 ⟨A0, c0, rfl, hB0⟩
    go_wp2_with fail
    refine (HI.out _).mono ?_
    rintro e w2 ⟨A1, c1, rfl, hB1⟩
    have R0 := Lib.hid hB0.rd
    have G1 := Lib.hid hB1
    have b1 := Lib.hid hB0.bel
    clear hB0 hB1
    go_wp2_with fail
    refine (eqIntS A1 A0 c1 c0 l _ G1.out.rd (R0.out.keep G1.out.bel) hn).mono ?_
    rintro e w3 ⟨rfl, hb3⟩
    have b3 := Lib.hid hb3
    clear hb3
    go_wp2_with fail
    refine (markIntS A1 l.length c1 l 1 w1 _ rfl (G1.out.after b3.out) hn (by omega)).mono ?_
    rintro e w4 ⟨rfl, hB4, hb4⟩
    have G4 := Lib.hid hB4
    have b4 := Lib.hid hb4
    clear hB4 hb4
    go_wp2_with fail
    refine (heldIntS A1 l.length c1 1 _ G4.out.rd hn (by omega)).mono ?_
    rintro e w5 ⟨rfl, hb5⟩
    have b5 := Lib.hid hb5
    clear hb5
    go_wp2_with fail
    refine (HI.out _).mono ?_
    rintro e w6 ⟨A2, c2, rfl, hB6⟩
    have G6 := Lib.hid hB6
    clear hB6
    have b16 : Hid (Below w1.heap.size w1 w6) := below_then (below_then (below_then G1.out.bel b3.out |>.trans b4.out) b5.out) G6.out.bel
    go_wp2_with fail
    refine (eqIntS A2 A0 c2 c0 l _ G6.out.rd (R0.out.keep b16.out) hn).mono ?_
    rintro e w7 ⟨rfl, hb7⟩
    have b7 := Lib.hid hb7
    clear hb7
    go_wp2_with fail
    refine (heldIntS A1 l.length c1 1 _ (G4.out.rd.keep (below_then (below_then b5.out G6.out.bel) b7.out)) hn (by omega)).mono ?_
    rintro e w8 ⟨rfl, hb8⟩
    go_wp2_with fail
    go_ret
    exact ⟨rfl, below_then b1.out (below_then (below_then b16.out b7.out) hb8)⟩
  · go_enter Try.func11, Try.ntmps11
    go_wp2
    go_ret
    exact ⟨rfl, Below.refl _ _⟩
end Go.Proofs.Ythbfockobnfomaa
