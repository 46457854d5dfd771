/-
  PrimesOf of both packages and its law, walked.
-/
import Derived.Test.YtmjnafpjfodbdaaOps
import Derived.Test.YtmjnafpjfodbdaaHts
import Derived.Test.YtmjnafpjfodbdaaFirst
import Derived.Test.YtmjnafpjfodbdaaPrimP
import Derived.Test.YtmjnafpjfodbdaaBsP
import Derived.Test.YtmjnafpjfodbdaaCutP
import Derived.Test.YtmjnafpjfodbdaaStrL
namespace Go.Proofs.Ytmjnafpjfodbdaa
open Go.RowKit
theorem lit_nilS (w : World) : Buf w (w.alloc (.cells #[] 9)) 9 (.slice (some ⟨w.heap.size, 0, none⟩) 0 0) (([] : List ByteArray).map Value.string) := Buf.lit (Below.refl _ w) [] (by decide)
theorem strs_one (l : List ByteArray) : ∀ u ∈ l.map Value.string, u.oneCell' = true := by
  intro u hu; obtain ⟨_, _, rfl⟩ := List.mem_map.1 hu; rfl
def prV (l : List UInt8) : List ByteArray := if dyck l = true then (prGo [] 0 l).map toB else []
theorem prV_no {l : List UInt8} (h : dyck l = false) : prV l = [] := if_neg (by rw [h]; simp)
theorem prV_yes {l : List UInt8} (h : dyck l = true) : prV l = (prGo [] 0 l).map toB := if_pos h
theorem prV_tree {l : List UInt8} (h : dyck l = true) : ∃ t : Tr, t.path = l ∧ t.nodes ≤ 8 ∧ prV l = (primes t).map toB := by
  obtain ⟨t, rfl, hn⟩ := tree_of_dyck h
  exact ⟨t, rfl, hn, by rw [prV_yes h, prGo_primes]⟩
theorem prV_len (l : List UInt8) : (prV l).length ≤ 8 := by
  cases h : dyck l with
  | false => rw [prV_no h]; simp
  | true =>
    obtain ⟨t, _, hn, he⟩ := prV_tree h
    rw [he, List.length_map]
    have := len_primes t; omega
theorem take_drop_snoc (l : List UInt8) (f j : Nat) (hf : f ≤ j) (hj : j < l.length) : (l.drop f).take (j + 1 - f) = (l.drop f).take (j - f) ++ [l[j]] := by
  rw [show j + 1 - f = (j - f) + 1 by omega, List.take_succ_eq_append_getElem (by simp; omega)]
  simp [show f + (j - f) = j by omega]

set_option maxRecDepth 100000 in
set_option maxHeartbeats 1000000 in
theorem primesI (s : ByteArray) (w : World) (hs : s.size ≤ 1048576) : Calls Try.prog 12 #[.string s] w (RetS (prV s.data.toList) w) := by
  cases hd : dyck s.data.toList with
  | false =>
    rw [prV_no hd]
    have hlit := lit_nilS w
    go_enter Try.func12, Try.ntmps12
    go_wp2_with (go_at_call 22; refine (isDyckI s _ hs).mono ?_; rintro e w1 ⟨rfl, hb⟩)
    go_ret
    exact RetS.of (hlit.after hb)
  | true =>
    have HV := Lib.hid (prV_yes hd)
    have hs16 : s.size ≤ 16 := by have := dyck_len hd; simpa using this
    have HP := Lib.hid (dyck_path hd)
    have HL := Lib.hid (show s.data.toList.length = s.size by simp)
    have hlit := lit_nilS w
    have HH := Lib.hid (fun w => heightsOfI s w hs)
    rw [htsV_yes hd] at HH
    have hn := len_hl s.data.toList
    obtain ⟨H, hH⟩ : ∃ H, H = hl s.data.toList := ⟨_, rfl⟩
    have HHl := Lib.hid hH
    rw [← hH, HL.out] at hn
    rw [← hH] at HH
    have HN := Lib.hid hn
    have HD := Lib.hid hd
    clear hH hn hd
    go_enter Try.func12, Try.ntmps12
    go_wp2_with fail
    refine (isDyckI s _ hs).mono ?_
    rintro e w1 ⟨rfl, hb1⟩
    rw [HD.out]
    go_wp2_with fail
    refine (HH.out _).mono ?_
    rintro e w2 ⟨A, cap, rfl, hB2⟩
    rw [HN.out]
    have hO := (hlit.after hb1).after hB2.bel
    have hR := hB2.from_ (hlit.after hb1).bel
    rw [HN.out] at hR
    have HR := Lib.hid hR
    clear hB2 hb1 hR
    go_wp2_with fail
    go_loopw [3, 4, 15] (fun v fr i wr => ∃ (k j f hh : Nat) (pre : List (List UInt8)), (k = 0 ∧ j = 0 ∨ k = j + 1) ∧ k ≤ s.size + 1 ∧ i = .int .i64 (k : Int) ∧ fr = .int .i64 (f : Int) ∧ f ≤ j ∧ pre.length ≤ j ∧ Hid (hgo hh (s.data.toList.drop j) = some 0) ∧ Hid (∀ m, H.getD (j + m) 0 = ((hh : Int) :: hts hh (s.data.toList.drop j)).getD m 0) ∧ Hid (pre ++ prGo ((s.data.toList.drop f).take (j - f)) hh (s.data.toList.drop j) = prGo [] 0 s.data.toList) ∧ Hid (Buf w wr 3 (.slice A (s.size + 1) cap) (H.map (Value.int .i64))) ∧ Buf w wr 9 v (((pre.map toB).map Value.string))) (fun _ _ i _ => s.size + 1 - (intOf i).toNat)
    case atStart => exact ⟨0, 0, 0, 0, [], .inl ⟨rfl, rfl⟩, by omega, rfl, rfl, by omega, by simp, HP.out, (by intro m; rw [HHl.out, Nat.zero_add, List.drop_zero]; rfl), rfl, HR.out, hO⟩
    case round =>
      obtain ⟨k, j, f, hh, pre, hkj, hk, rfl, rfl, hfj, hpl, HG, HT, HE, HB, hBr⟩ := hrel
      rcases hkj with ⟨rfl, rfl⟩ | rfl
      · obtain ⟨b1, o1, rfl, _, hc1⟩ := HB.out.rd 0 (by rw [HN.out]; omega)
        rw [Nat.add_zero] at hc1
        obtain ⟨x0, hx0⟩ : ∃ x0, x0 = H.getD 0 0 := ⟨_, rfl⟩
        rw [← hx0] at hc1
        clear hx0
        go_wp2
        go_roundw
        case rel => exact ⟨1, 0, f, hh, pre, .inr rfl, by omega, rfl, rfl, hfj, hpl, HG.out, HT.out, HE.out, HB.out, hBr⟩
        case measure => simp [intOf]
      · by_cases hlt : j < s.size
        · have hd := drop_cons s j hlt
          have hor := hgo_letters HG.out s[j] (by rw [hd]; simp)
          obtain ⟨b1, o1, rfl, _, hc1⟩ := HB.out.rd (j + 1) (by rw [HN.out]; omega)
          rw [HT.out 1] at hc1
          have hsn := take_drop_snoc s.data.toList f j hfj (by simpa using hlt)
          have hsj : s.data.toList[j]'(by simpa using hlt) = s[j] := rfl
          rw [hsj] at hsn
          have hxl : ((pre.map toB).map Value.string).length ≤ 16 := by simp; omega
          by_cases h1 : s[j] = 117
          · have HG2 : Hid (hgo (hh + 1) (s.data.toList.drop (j + 1)) = some 0) := by have := HG.out; rw [hd, h1, hgo_u] at this; exact this
            have HT2 : Hid (∀ m, H.getD (j + 1 + m) 0 = (((hh + 1 : Nat) : Int) :: hts (hh + 1) (s.data.toList.drop (j + 1))).getD m 0) := by
              intro m; have := HT.out (m + 1); rw [hd, h1, hts_u] at this; rw [show j + 1 + m = j + (m + 1) by omega, this]; rfl
            have HE2 : Hid (pre ++ prGo ((s.data.toList.drop f).take (j + 1 - f)) (hh + 1) (s.data.toList.drop (j + 1)) = prGo [] 0 s.data.toList) := by
              have := HE.out; rw [hd, h1, prGo_u, ← h1, ← hsn] at this; exact this
            have hx : ((hh : Int) :: hts hh (s.data.toList.drop j)).getD 1 0 = (hh : Int) + 1 := by rw [hd, h1, hts_u]; rfl
            rw [hx] at hc1
            have ez : (((hh : Int) + 1) == 0) = false := by rw [beq_eq_false_iff_ne]; omega
            clear hd h1 hor hx hsn hsj HE HT HG
            go_wp2
            go_roundw
            case rel => exact ⟨j + 1 + 1, j + 1, f, hh + 1, pre, .inr rfl, by omega, by go_num, rfl, by omega, by omega, HG2, HT2, HE2, HB.out, hBr⟩
            case measure => simp [intOf]; omega
          · have h2 : s[j] = 100 := hor.resolve_left h1
            rcases hh with _ | _ | hh
            · have := HG.out; rw [hd, h2, hgo_d0] at this; cases this
            · have HG2 : Hid (hgo 0 (s.data.toList.drop (j + 1)) = some 0) := by have := HG.out; rw [hd, h2, hgo_d] at this; exact this
              have HT2 : Hid (∀ m, H.getD (j + 1 + m) 0 = (((0 : Nat) : Int) :: hts 0 (s.data.toList.drop (j + 1))).getD m 0) := by
                intro m; have := HT.out (m + 1); rw [hd, h2, hts_d] at this; rw [show j + 1 + m = j + (m + 1) by omega, this]; rfl
              have hx : (((1 : Nat) : Int) :: hts 1 (s.data.toList.drop j)).getD 1 0 = 0 := by rw [hd, h2, hts_d]; rfl
              rw [hx] at hc1
              have HX : Hid (s.extract f (j + 1) = toB ((s.data.toList.drop f).take (j - f) ++ [100])) := by show _ = _; rw [extract_toB, hsn, h2]
              have HE2 : Hid ((pre ++ [(s.data.toList.drop f).take (j - f) ++ [100]]) ++ prGo ((s.data.toList.drop (j + 1)).take (j + 1 - (j + 1))) 0 (s.data.toList.drop (j + 1)) = prGo [] 0 s.data.toList) := by
                have := HE.out; rw [hd, h2, prGo_d1] at this; show _ = _; rw [← this]; simp
              have HM : Hid (((pre ++ [(s.data.toList.drop f).take (j - f) ++ [100]]).map toB).map Value.string = (pre.map toB).map Value.string ++ [.string (s.extract f (j + 1))]) := by show _ = _; rw [HX.out]; simp
              clear hd h1 h2 hor hx hsn hsj HE HT HG
              have ez : ((0 : Int) == 0) = true := rfl
              have k3 : (f : Int) ≤ (j : Int) + 1 := by omega
              have k5 : ((j : Int) + 1).toNat = j + 1 := by omega
              have k6 : (j : Int) + 1 ≤ (s.size : Int) := by omega
              have k7 : (0 : Int) ≤ (j : Int) + 1 := by omega
              go_wp2_with (at_builtin; refine buf_append1 elStr rfl _ _ rfl hBr rfl rfl rfl (by omega) ?_; intro v2 w3 hB2 _ hgr; rw [← HM.out] at hB2)
              have HB3 := Lib.hid (HB.out.kept_ hgr (.inr fun e => HB.out.ne_ hBr (by decide) rfl (e.symm.trans rfl)) (fun k hk => (hBr.own.lt k hk).1))
              clear HB hgr
              go_roundw
              case rel => exact ⟨j + 1 + 1, j + 1, j + 1, 0, _, .inr rfl, by omega, by go_num, by go_num, by omega, by simp; omega, HG2, HT2, HE2, HB3.out, hB2⟩
              case measure => simp [intOf]; omega
            · have HG2 : Hid (hgo (hh + 1) (s.data.toList.drop (j + 1)) = some 0) := by have := HG.out; rw [hd, h2, hgo_d] at this; exact this
              have HT2 : Hid (∀ m, H.getD (j + 1 + m) 0 = (((hh + 1 : Nat) : Int) :: hts (hh + 1) (s.data.toList.drop (j + 1))).getD m 0) := by
                intro m; have := HT.out (m + 1); rw [hd, h2, hts_d] at this; rw [show j + 1 + m = j + (m + 1) by omega, this]; rfl
              have hx : (((hh + 2 : Nat) : Int) :: hts (hh + 2) (s.data.toList.drop j)).getD 1 0 = (hh : Int) + 1 := by rw [hd, h2, hts_d]; rfl
              have HE2 : Hid (pre ++ prGo ((s.data.toList.drop f).take (j + 1 - f)) (hh + 1) (s.data.toList.drop (j + 1)) = prGo [] 0 s.data.toList) := by
                have := HE.out; rw [hd, h2, prGo_d, ← h2, ← hsn] at this; exact this
              rw [hx] at hc1
              have ez : (((hh : Int) + 1) == 0) = false := by rw [beq_eq_false_iff_ne]; omega
              clear hd h1 h2 hor hx hsn hsj HE HT HG
              go_wp2
              go_roundw
              case rel => exact ⟨j + 1 + 1, j + 1, f, hh + 1, pre, .inr rfl, by omega, by go_num, rfl, by omega, by omega, HG2, HT2, HE2, HB.out, hBr⟩
              case measure => simp [intOf]; omega
        · obtain rfl : j = s.size := by omega
          have HF : Hid (((pre.map toB).map Value.string) = (prV s.data.toList).map Value.string) := by
            have := HE.out
            rw [drop_end s s.size (by omega)] at this
            show _ = _
            rw [HV.out, ← this]; simp [prGo]
          rw [HF.out] at hBr
          have hO2 := hBr
          clear HT HG HE
          go_wp2
          go_ret
          exact RetS.of hBr
def szOf : Value → Nat
  | .string s => s.size
  | _ => 0

set_option maxRecDepth 100000 in
set_option maxHeartbeats 1000000 in
theorem primesS (s : ByteArray) (w : World) (hs : s.size ≤ 1048576) : Calls Try.prog 11 #[.string s] w (RetS (prV s.data.toList) w) := by
  cases hd : dyck s.data.toList with
  | false =>
    rw [prV_no hd]
    have hlit := lit_nilS w
    go_enter Try.func11, Try.ntmps11
    go_wp2_with fail
    refine wp_loop_rounds 1 ?_
    rw [rounds_succ]
    go_wp2_with (go_at_call 21; refine (isDyckS s _ hs).mono ?_; rintro e w1 ⟨rfl, rfl⟩)
    go_ret
    exact RetS.of hlit
  | true =>
    have hlit := lit_nilS w
    obtain ⟨t, ht, hn, hv⟩ := prV_tree hd
    have HV := Lib.hid hv
    have hst : s = toB t.path := by rw [ht, toB_of]
    clear hv hd ht hs
    subst hst
    go_enter Try.func11, Try.ntmps11
    go_wp2_with fail
    go_loopw [0, 3, 4] (fun x v _ wr => ∃ (b : Tr) (pre : List (List UInt8)), x = .string (toB b.path) ∧ pre.length + b.nodes ≤ 8 ∧ Hid (pre ++ primes b = primes t) ∧ Buf w wr 9 v ((pre.map toB).map Value.string)) (fun x _ _ _ => szOf x)
    case atStart => exact ⟨t, [], rfl, by simpa using hn, rfl, hlit⟩
    case round =>
      obtain ⟨b, pre, rfl, hpn, HE, hBr⟩ := hrel
      have hsz : (toB b.path).size = 2 * b.nodes := by rw [toB_size, len_path]
      have hdk : dyck (toB b.path).data.toList = true := path_dyck b (by omega)
      have HD := Lib.hid (fun w => isDyckS (toB b.path) w (by omega))
      rw [hdk] at HD
      obtain ⟨em1, em2⟩ := toB_isEmpty b.path
      cases b with
      | lf =>
        have hem : (Tr.lf).path.isEmpty = true := rfl
        rw [hem] at em1 em2
        have HF : Hid ((pre.map toB).map Value.string = (prV (toB t.path).data.toList).map Value.string) := by
          show _ = _
          have := HE.out
          rw [HV.out, ← this]; simp [primes]
        rw [HF.out] at hBr
        obtain ⟨x, hx⟩ : ∃ x, x = toB (Tr.lf).path := ⟨_, rfl⟩
        rw [← hx] at HD em1 em2 ⊢
        clear hx hsz hdk hem
        go_wp2_with (go_at_call 21; refine (HD.out _).mono ?_; rintro e w' ⟨rfl, rfl⟩)
        go_ret
        exact RetS.of hBr
      | nd a b =>
        have hem : (Tr.nd a b).path.isEmpty = false := rfl
        rw [hem] at em1 em2
        have HC := Lib.hid (fun w => l2CutS (toB (Tr.nd a b).path) (a.path.length + 1) w (by omega) (path_isPath _) (cut_nd a b))
        have F1 := Lib.hid (nd_front a b)
        have F2 := Lib.hid (nd_back a b (toB (Tr.nd a b).path).size (by rw [toB_size]))
        have hsa : a.path.length + 1 + 1 + b.path.length ≤ (toB (Tr.nd a b).path).size := by rw [hsz, len_path, len_path, Tr.nodes]; omega
        have hsb : (toB b.path).size = b.path.length := toB_size _
        have HPN : Hid ((pre ++ [117 :: (a.path ++ [100])]).length + b.nodes ≤ 8) := by show _ ≤ _; simp only [Tr.nodes] at hpn; simp; omega
        have HE2 : Hid ((pre ++ [117 :: (a.path ++ [100])]) ++ primes b = primes t) := by show _ = _; rw [← HE.out]; simp [primes]
        have hxl : ((pre.map toB).map Value.string).length ≤ 16 := by simp; omega
        have HM : Hid (((pre ++ [117 :: (a.path ++ [100])]).map toB).map Value.string = (pre.map toB).map Value.string ++ [.string ((toB (Tr.nd a b).path).extract 0 (a.path.length + 1 + 1))]) := by show _ = _; rw [F1.out]; simp
        rw [Tr.nodes] at hpn hsz
        obtain ⟨x, hx⟩ : ∃ x, x = toB (Tr.nd a b).path := ⟨_, rfl⟩
        obtain ⟨p, hp⟩ : ∃ p, p = a.path.length + 1 := ⟨_, rfl⟩
        rw [← hx] at HD HC F1 F2 em1 em2 hsz hsa HM ⊢
        rw [← hp] at HC F1 F2 hsa HM
        have HX := Lib.hid hx
        clear hx hdk hem
        have k1 : IntKind.i64.wrap ((p : Int) + 1) = (p : Int) + 1 := IntWalk.i64_in _ ⟨by omega, by omega⟩
        have k5 : ((p : Int) + 1).toNat = p + 1 := by omega
        have k6 : (p : Int) + 1 ≤ (x.size : Int) := by omega
        have k7 : (0 : Int) ≤ (p : Int) + 1 := by omega
        clear hp hsz
        go_wp2_with (first | (go_at_call 21; refine (HD.out _).mono ?_; rintro e w' ⟨rfl, rfl⟩) | (go_at_call 44; refine (HC.out _).mono ?_; rintro e w' ⟨rfl, rfl⟩) | (at_builtin; refine buf_append1 elStr rfl _ _ rfl hBr rfl rfl rfl (by omega) ?_; intro v2 w3 hB2 _ hgr; rw [← HM.out] at hB2))
        go_roundw
        case rel => exact ⟨b, _, by rw [F2.out], HPN.out, HE2, hB2⟩
        case measure => simp [szOf]; omega
set_option maxRecDepth 100000 in
set_option maxHeartbeats 1000000 in
theorem law_FnExactPrimesOf (s : ByteArray) (w : World) (hs : s.size ≤ maxLen) : Calls Try.prog 4 #[.string s] w fun e w' => e = .returned (.bool true) ∧ Below w.heap.size w w' := by
  unfold maxLen at hs
  by_cases hb : s.size ≤ 1048576
  · have HS := Lib.hid (fun w => primesS s w hb)
    have HI := Lib.hid (fun w => primesI s w hb)
    have hn : (prV s.data.toList).length ≤ 1073741824 := by have := prV_len s.data.toList; omega
    obtain ⟨l, hl⟩ : ∃ l, l = prV s.data.toList := ⟨_, rfl⟩
    rw [← hl] at HS HI hn
    clear hl
    go_enter Try.func4, Try.ntmps4
    go_wp2_with fail
    refine (HS.out _).mono ?_
    rintro e w1 ⟨A0, c0, rfl, hB0⟩
    go_wp2_with fail
    refine (HI.out _).mono ?_
    rintro e w2 ⟨A1, c1, rfl, hB1⟩
    have R0 := Lib.hid hB0.rdS
    have G1 := Lib.hid hB1
    have b1 := Lib.hid hB0.bel
    clear hB0 hB1
    go_wp2_with fail
    refine (eqStringS A1 A0 c1 c0 l _ G1.out.rdS (R0.out.keep G1.out.bel) hn).mono ?_
    rintro e w3 ⟨rfl, hb3⟩
    have b3 := Lib.hid hb3
    clear hb3
    go_wp2_with fail
    refine (markStringS A1 l.length c1 l 1 w1 _ rfl (G1.out.after b3.out) hn (by omega) (by omega)).mono ?_
    rintro e w4 ⟨rfl, hB4, hb4⟩
    have G4 := Lib.hid hB4
    have b4 := Lib.hid hb4
    clear hB4 hb4
    go_wp2_with fail
    refine (heldStringS A1 l.length c1 1 _ G4.out.rdS hn (by omega) (by omega)).mono ?_
    rintro e w5 ⟨rfl, hb5⟩
    have b5 := Lib.hid hb5
    clear hb5
    go_wp2_with fail
    refine (HI.out _).mono ?_
    rintro e w6 ⟨A2, c2, rfl, hB6⟩
    have G6 := Lib.hid hB6
    clear hB6
    have b16 : Hid (Below w1.heap.size w1 w6) := below_then (below_then (below_then G1.out.bel b3.out |>.trans b4.out) b5.out) G6.out.bel
    go_wp2_with fail
    refine (eqStringS A2 A0 c2 c0 l _ G6.out.rdS (R0.out.keep b16.out) hn).mono ?_
    rintro e w7 ⟨rfl, hb7⟩
    have b7 := Lib.hid hb7
    clear hb7
    go_wp2_with fail
    refine (heldStringS A1 l.length c1 1 _ (G4.out.rdS.keep (below_then (below_then b5.out G6.out.bel) b7.out)) hn (by omega) (by omega)).mono ?_
    rintro e w8 ⟨rfl, hb8⟩
    go_wp2_with fail
    go_ret
    exact ⟨rfl, below_then b1.out (below_then (below_then b16.out b7.out) hb8)⟩
  · go_enter Try.func4, Try.ntmps4
    go_wp2
    go_ret
    exact ⟨rfl, Below.refl _ _⟩
end Go.Proofs.Ytmjnafpjfodbdaa
