/-
  ParseInt of both packages and its law, walked.
-/
import Derived.Lib.SlicesS
import Derived.Test.YtndehfkamfmmeaaParsP
namespace Go.Proofs.Ytndehfkamfmmeaa
open Go.RowKit
theorem head_at (s : ByteArray) (h : 0 < s.size) : s.data.toList.head? = some s[0] := by
  have := drop_cons s 0 h
  rw [List.drop_zero] at this
  rw [this]; rfl
theorem dg_byte (c : UInt8) (h1 : (48 : Int) ≤ (c.toNat : Int)) (h2 : (c.toNat : Int) ≤ 57) : dg c = true := by unfold dg; rw [decide_eq_true_eq]; omega
theorem dg_not (c : UInt8) (h : ¬ ((48 : Int) ≤ (c.toNat : Int) ∧ (c.toNat : Int) ≤ 57)) : dg c = false := by unfold dg; rw [decide_eq_false_iff_not]; omega
theorem sum_digit (n : Int) (c : UInt8) (r : List UInt8) (h : dg c = true) : sumD n (c :: r) = sumD (10 * n + ((c.toNat : Int) - 48)) r := by show sumD (if _ then _ else _) r = _; rw [if_pos h]
theorem sum_other (n : Int) (c : UInt8) (r : List UInt8) (h : dg c = false) : sumD n (c :: r) = sumD n r := by show sumD (if _ then _ else _) r = _; rw [if_neg (by rw [h]; simp)]
theorem cnt_digit (n : Nat) (c : UInt8) (r : List UInt8) (h : dg c = true) : cntD n (c :: r) = cntD (n + 1) r := by show cntD (if _ then _ else _) r = _; rw [if_pos h]
theorem cnt_other (n : Nat) (c : UInt8) (r : List UInt8) (h : dg c = false) : cntD n (c :: r) = cntD n r := by show cntD (if _ then _ else _) r = _; rw [if_neg (by rw [h]; simp)]

set_option maxRecDepth 100000 in
theorem parseI_empty (s : ByteArray) (w : World) (h : s.size = 0) : Calls Try.prog 60 #[.string s] w fun e w' => e = .returned (parR (parS s.data.toList)) ∧ Below w.heap.size w w' := by
  have HV : Hid (parS s.data.toList = none) := parS_long _ (.inl (by simp [h]))
  go_enter Try.func60, Try.ntmps60
  go_wp2_with (go_at_call 63; refine (within_no _ _ _ _ (by omega)).mono ?_; rintro e w' ⟨rfl, rfl⟩)
  go_ret2
  exact ⟨by rw [HV.out]; rfl, Below.refl _ _⟩
set_option maxRecDepth 100000 in
set_option maxHeartbeats 1000000 in
theorem parseI_neg (s : ByteArray) (w : World) (hs : s.size ≤ 1048576) (h : 0 < s.size) (h1 : s[0] = 45) : Calls Try.prog 60 #[.string s] w fun e w' => e = .returned (parR (parS s.data.toList)) ∧ Below w.heap.size w w' := by
  have e0 := byte_eq 45 45 h1
  have HH : Hid (s.data.toList.head? = some 45) := by show (s.data.toList.head? = some 45); rw [head_at s h]; rw [h1]
  have HA : Hid (atL s.data.toList = 1) := if_pos HH.out
  have hlen : (s.data.toList.drop 1).length = s.size - 1 := by simp
  have HL := Lib.hid hlen
  clear hlen
  by_cases hin : (s.size : Int) - 1 < 1 ∨ 9 < (s.size : Int) - 1
  · have HV : Hid (parS s.data.toList = none) := parS_long _ (by rw [HA.out, HL.out]; omega)
    clear h1
    go_enter Try.func60, Try.ntmps60
    go_wp2_with (go_at_call 63; refine (within_no _ _ _ _ (by omega)).mono ?_; rintro e w' ⟨rfl, rfl⟩)
    go_ret2
    exact ⟨by rw [HV.out]; rfl, Below.refl _ _⟩
  · have hs10 : s.size ≤ 9 + 1 := by omega
    have hs1 : 1 + 1 ≤ s.size := by omega
    clear hin h1
    go_enter Try.func60, Try.ntmps60
    go_wp2_with (go_at_call 63; refine (within_yes _ _ _ _ (by omega) (by omega)).mono ?_; rintro e w' ⟨rfl, rfl⟩)
    go_loopw [5, 6] (fun nn i wr => ∃ (j : Nat) (n : Int), 1 ≤ j ∧ j ≤ s.size ∧ i = .int .i64 (j : Int) ∧ nn = .int .i64 n ∧ 0 ≤ n ∧ Hid (n < (10 : Int) ^ (j - 1)) ∧ Hid (sumD n (s.data.toList.drop j) = sumD 0 (s.data.toList.drop 1)) ∧ Hid (∀ c ∈ (s.data.toList.drop 1).take (j - 1), dg c = true) ∧ wr = w) (fun _ i _ => s.size - (intOf i).toNat)
    case atStart => exact ⟨1, 0, by omega, by omega, rfl, rfl, by omega, (by show (0 : Int) < 1; omega), rfl, (by intro c hc; simp at hc), rfl⟩
    case round =>
      obtain ⟨j, n, hja, hj, rfl, rfl, hn0, HN, HS, HD, rfl⟩ := hrel
      have hnb : n < 1000000000 := by
        have := HN.out
        have h2 : (10 : Int) ^ (j - 1) ≤ 10 ^ 9 := by
          have hx : j - 1 = 0 ∨ j - 1 = 1 ∨ j - 1 = 2 ∨ j - 1 = 3 ∨ j - 1 = 4 ∨ j - 1 = 5 ∨ j - 1 = 6 ∨ j - 1 = 7 ∨ j - 1 = 8 ∨ j - 1 = 9 := by omega
          rcases hx with hx | hx | hx | hx | hx | hx | hx | hx | hx | hx <;> rw [hx] <;> decide
        have h3 : (10 : Int) ^ 9 = 1000000000 := by decide
        omega
      by_cases hlt : j < s.size
      · have hd := drop_cons s j hlt
        have hb := s[j].toNat_lt
        by_cases hdg : (48 : Int) ≤ (s[j].toNat : Int) ∧ (s[j].toNat : Int) ≤ 57
        · have hdt := dg_byte _ hdg.1 hdg.2
          have hc1 := hdg.1
          have hc2 := hdg.2
          have HS2 : Hid (sumD (10 * n + ((s[j].toNat : Int) - 48)) (s.data.toList.drop (j + 1)) = sumD 0 (s.data.toList.drop 1)) := by
            have := HS.out; rw [hd, sum_digit _ _ _ hdt] at this; exact this
          have HN2 : Hid (10 * n + ((s[j].toNat : Int) - 48) < (10 : Int) ^ (j + 1 - 1)) := by
            have := HN.out
            show _ < _
            rw [show j + 1 - 1 = (j - 1) + 1 by omega, Int.pow_succ]; omega
          have HD2 : Hid (∀ c ∈ (s.data.toList.drop 1).take (j + 1 - 1), dg c = true) := by
            show ∀ c ∈ _, _
            have e : (s.data.toList.drop 1).take (j + 1 - 1) = (s.data.toList.drop 1).take (j - 1) ++ [s[j]] := by
              rw [show j + 1 - 1 = (j - 1) + 1 by omega, List.take_add_one]
              congr 1
              rw [List.getElem?_drop, show 1 + (j - 1) = j by omega]
              simp [hlt]; rfl
            rw [e]
            intro c hc
            rcases List.mem_append.mp hc with hc | hc
            · exact HD.out c hc
            · rw [List.mem_singleton.mp hc]; exact hdt
          obtain ⟨b, hbq⟩ : ∃ b : Int, b = (s[j].toNat : Int) := ⟨_, rfl⟩
          have hw : (b - 48) % 256 = b - 48 := by omega
          rw [← hbq] at HS2 HN2 hc1 hc2
          have HB := Lib.hid hbq
          have hg1 : decide ((s[j].toNat : Int) < 48) = false := by simp only [decide_eq_false_iff_not]; omega
          have hg2 : decide (57 < (s[j].toNat : Int)) = false := by simp only [decide_eq_false_iff_not]; omega
          rw [hbq] at hw
          clear hd hdg hdt hbq
          go_wp2
          go_roundw
          case rel => exact ⟨j + 1, 10 * n + (b - 48), by omega, by omega, by go_num, by rw [HB.out], by omega, HN2, HS2, HD2, by first | rfl | trivial⟩
          case measure => simp [intOf]; omega
        · have hdt := dg_not _ hdg
          have HV : Hid (parS s.data.toList = none) := by
            refine parS_bad _ s[j] ?_ hdt
            rw [HA.out]
            have : s[j] ∈ s.data.toList.drop j := by rw [hd]; simp
            have h2 : s.data.toList.drop j = (s.data.toList.drop 1).drop (j - 1) := by rw [List.drop_drop, show 1 + (j - 1) = j by omega]
            rw [h2] at this
            exact List.mem_of_mem_drop this
          clear hd hdt
          by_cases hc1 : (s[j].toNat : Int) < 48
          · have hg1 : decide ((s[j].toNat : Int) < 48) = true := by simp only [decide_eq_true_eq]; omega
            clear hdg
            go_wp2
            go_ret2
            exact ⟨by rw [HV.out]; rfl, Below.refl _ _⟩
          · have hg1 : decide ((s[j].toNat : Int) < 48) = false := by simp only [decide_eq_false_iff_not]; omega
            have hg2 : decide (57 < (s[j].toNat : Int)) = true := by simp only [decide_eq_true_eq]; omega
            clear hdg hc1
            go_wp2
            go_ret2
            exact ⟨by rw [HV.out]; rfl, Below.refl _ _⟩
      · have hje : j = s.size := by omega
        have HG : Hid (parN s.data.toList = -n ∧ parS s.data.toList = if strOfNums (fmt (-n)) = s then some (-n) else none) := by
          have hall : ∀ c ∈ s.data.toList.drop 1, dg c = true := by
            have := HD.out
            rw [List.take_of_length_le (by rw [HL.out]; omega)] at this; exact this
          have hsum : sumD 0 (s.data.toList.drop 1) = n := by
            have := HS.out; rw [drop_end s j hlt] at this; exact this.symm
          have hg := parS_good s.data.toList (by rw [HA.out]; exact hall) (by rw [HA.out, HL.out]; omega)
          rw [HA.out, hsum, if_pos HH.out] at hg
          obtain ⟨g1, g2⟩ := hg
          rw [g1] at g2
          exact ⟨g1, g2⟩
        subst hje
        have HF := Lib.hid (fun w => formatI (-n) w (by omega) (by omega))
        by_cases he : strOfNums (fmt (-n)) = s
        · have HV := Lib.hid (HG.out.2.trans (if_pos he))
          rw [he] at HF
          clear HG he
          go_wp2_with (go_at_call 59; refine (HF.out _).mono ?_; rintro e w2 ⟨rfl, hb2⟩)
          all_goals skip
          go_ret2
          exact ⟨by rw [HV.out]; rfl, hb2⟩
        · have HV := Lib.hid (HG.out.2.trans (if_neg he))
          obtain ⟨o, ho⟩ : ∃ o, o = strOfNums (fmt (-n)) := ⟨_, rfl⟩
          rw [← ho] at HF he
          have he1 : (o.toList == s.toList) = false := (Lib.bytes_beq_false_iff _ _).2 he
          have he2 : (o.toList != s.toList) = true := by unfold bne; rw [he1]; rfl
          clear HG ho
          go_wp2_with (go_at_call 59; refine (HF.out _).mono ?_; rintro e w2 ⟨rfl, hb2⟩)
          all_goals skip
          go_ret2
          exact ⟨by rw [HV.out]; rfl, hb2⟩
set_option maxRecDepth 100000 in
set_option maxHeartbeats 1000000 in
theorem parseI_pos (s : ByteArray) (w : World) (hs : s.size ≤ 1048576) (h : 0 < s.size) (h1 : s[0] ≠ 45) : Calls Try.prog 60 #[.string s] w fun e w' => e = .returned (parR (parS s.data.toList)) ∧ Below w.heap.size w w' := by
  have e0 := byte_ne 45 45 h1
  have HH : Hid (¬ s.data.toList.head? = some 45) := by show (¬ s.data.toList.head? = some 45); rw [head_at s h]; intro hc; exact h1 (Option.some.inj hc)
  have HA : Hid (atL s.data.toList = 0) := if_neg HH.out
  have hlen : (s.data.toList.drop 0).length = s.size - 0 := by simp
  have HL := Lib.hid hlen
  clear hlen
  by_cases hin : (s.size : Int) - 0 < 1 ∨ 9 < (s.size : Int) - 0
  · have HV : Hid (parS s.data.toList = none) := parS_long _ (by rw [HA.out, HL.out]; omega)
    clear h1
    go_enter Try.func60, Try.ntmps60
    go_wp2_with (go_at_call 63; refine (within_no _ _ _ _ (by omega)).mono ?_; rintro e w' ⟨rfl, rfl⟩)
    go_ret2
    exact ⟨by rw [HV.out]; rfl, Below.refl _ _⟩
  · have hs10 : s.size ≤ 9 + 0 := by omega
    have hs1 : 0 + 1 ≤ s.size := by omega
    clear hin h1
    go_enter Try.func60, Try.ntmps60
    go_wp2_with (go_at_call 63; refine (within_yes _ _ _ _ (by omega) (by omega)).mono ?_; rintro e w' ⟨rfl, rfl⟩)
    go_loopw [5, 6] (fun nn i wr => ∃ (j : Nat) (n : Int), 0 ≤ j ∧ j ≤ s.size ∧ i = .int .i64 (j : Int) ∧ nn = .int .i64 n ∧ 0 ≤ n ∧ Hid (n < (10 : Int) ^ (j - 0)) ∧ Hid (sumD n (s.data.toList.drop j) = sumD 0 (s.data.toList.drop 0)) ∧ Hid (∀ c ∈ (s.data.toList.drop 0).take (j - 0), dg c = true) ∧ wr = w) (fun _ i _ => s.size - (intOf i).toNat)
    case atStart => exact ⟨0, 0, by omega, by omega, rfl, rfl, by omega, (by show (0 : Int) < 1; omega), rfl, (by intro c hc; simp at hc), rfl⟩
    case round =>
      obtain ⟨j, n, hja, hj, rfl, rfl, hn0, HN, HS, HD, rfl⟩ := hrel
      have hnb : n < 1000000000 := by
        have := HN.out
        have h2 : (10 : Int) ^ (j - 0) ≤ 10 ^ 9 := by
          have hx : j - 0 = 0 ∨ j - 0 = 1 ∨ j - 0 = 2 ∨ j - 0 = 3 ∨ j - 0 = 4 ∨ j - 0 = 5 ∨ j - 0 = 6 ∨ j - 0 = 7 ∨ j - 0 = 8 ∨ j - 0 = 9 := by omega
          rcases hx with hx | hx | hx | hx | hx | hx | hx | hx | hx | hx <;> rw [hx] <;> decide
        have h3 : (10 : Int) ^ 9 = 1000000000 := by decide
        omega
      by_cases hlt : j < s.size
      · have hd := drop_cons s j hlt
        have hb := s[j].toNat_lt
        by_cases hdg : (48 : Int) ≤ (s[j].toNat : Int) ∧ (s[j].toNat : Int) ≤ 57
        · have hdt := dg_byte _ hdg.1 hdg.2
          have hc1 := hdg.1
          have hc2 := hdg.2
          have HS2 : Hid (sumD (10 * n + ((s[j].toNat : Int) - 48)) (s.data.toList.drop (j + 1)) = sumD 0 (s.data.toList.drop 0)) := by
            have := HS.out; rw [hd, sum_digit _ _ _ hdt] at this; exact this
          have HN2 : Hid (10 * n + ((s[j].toNat : Int) - 48) < (10 : Int) ^ (j + 1 - 0)) := by
            have := HN.out
            show _ < _
            rw [show j + 1 - 0 = (j - 0) + 1 by omega, Int.pow_succ]; omega
          have HD2 : Hid (∀ c ∈ (s.data.toList.drop 0).take (j + 1 - 0), dg c = true) := by
            show ∀ c ∈ _, _
            have e : (s.data.toList.drop 0).take (j + 1 - 0) = (s.data.toList.drop 0).take (j - 0) ++ [s[j]] := by
              rw [show j + 1 - 0 = (j - 0) + 1 by omega, List.take_add_one]
              congr 1
              rw [List.getElem?_drop, show 0 + (j - 0) = j by omega]
              simp [hlt]; rfl
            rw [e]
            intro c hc
            rcases List.mem_append.mp hc with hc | hc
            · exact HD.out c hc
            · rw [List.mem_singleton.mp hc]; exact hdt
          obtain ⟨b, hbq⟩ : ∃ b : Int, b = (s[j].toNat : Int) := ⟨_, rfl⟩
          have hw : (b - 48) % 256 = b - 48 := by omega
          rw [← hbq] at HS2 HN2 hc1 hc2
          have HB := Lib.hid hbq
          have hg1 : decide ((s[j].toNat : Int) < 48) = false := by simp only [decide_eq_false_iff_not]; omega
          have hg2 : decide (57 < (s[j].toNat : Int)) = false := by simp only [decide_eq_false_iff_not]; omega
          rw [hbq] at hw
          clear hd hdg hdt hbq
          go_wp2
          go_roundw
          case rel => exact ⟨j + 1, 10 * n + (b - 48), by omega, by omega, by go_num, by rw [HB.out], by omega, HN2, HS2, HD2, by first | rfl | trivial⟩
          case measure => simp [intOf]; omega
        · have hdt := dg_not _ hdg
          have HV : Hid (parS s.data.toList = none) := by
            refine parS_bad _ s[j] ?_ hdt
            rw [HA.out]
            have : s[j] ∈ s.data.toList.drop j := by rw [hd]; simp
            have h2 : s.data.toList.drop j = (s.data.toList.drop 0).drop (j - 0) := by rw [List.drop_drop, show 0 + (j - 0) = j by omega]
            rw [h2] at this
            exact List.mem_of_mem_drop this
          clear hd hdt
          by_cases hc1 : (s[j].toNat : Int) < 48
          · have hg1 : decide ((s[j].toNat : Int) < 48) = true := by simp only [decide_eq_true_eq]; omega
            clear hdg
            go_wp2
            go_ret2
            exact ⟨by rw [HV.out]; rfl, Below.refl _ _⟩
          · have hg1 : decide ((s[j].toNat : Int) < 48) = false := by simp only [decide_eq_false_iff_not]; omega
            have hg2 : decide (57 < (s[j].toNat : Int)) = true := by simp only [decide_eq_true_eq]; omega
            clear hdg hc1
            go_wp2
            go_ret2
            exact ⟨by rw [HV.out]; rfl, Below.refl _ _⟩
      · have hje : j = s.size := by omega
        have HG : Hid (parN s.data.toList = n ∧ parS s.data.toList = if strOfNums (fmt (n)) = s then some (n) else none) := by
          have hall : ∀ c ∈ s.data.toList.drop 0, dg c = true := by
            have := HD.out
            rw [List.take_of_length_le (by rw [HL.out]; omega)] at this; exact this
          have hsum : sumD 0 (s.data.toList.drop 0) = n := by
            have := HS.out; rw [drop_end s j hlt] at this; exact this.symm
          have hg := parS_good s.data.toList (by rw [HA.out]; exact hall) (by rw [HA.out, HL.out]; omega)
          rw [HA.out, hsum, if_neg HH.out] at hg
          obtain ⟨g1, g2⟩ := hg
          rw [g1] at g2
          exact ⟨g1, g2⟩
        subst hje
        have HF := Lib.hid (fun w => formatI (n) w (by omega) (by omega))
        by_cases he : strOfNums (fmt (n)) = s
        · have HV := Lib.hid (HG.out.2.trans (if_pos he))
          rw [he] at HF
          clear HG he
          go_wp2_with (go_at_call 59; refine (HF.out _).mono ?_; rintro e w2 ⟨rfl, hb2⟩)
          all_goals skip
          go_ret2
          exact ⟨by rw [HV.out]; rfl, hb2⟩
        · have HV := Lib.hid (HG.out.2.trans (if_neg he))
          obtain ⟨o, ho⟩ : ∃ o, o = strOfNums (fmt (n)) := ⟨_, rfl⟩
          rw [← ho] at HF he
          have he1 : (o.toList == s.toList) = false := (Lib.bytes_beq_false_iff _ _).2 he
          have he2 : (o.toList != s.toList) = true := by unfold bne; rw [he1]; rfl
          clear HG ho
          go_wp2_with (go_at_call 59; refine (HF.out _).mono ?_; rintro e w2 ⟨rfl, hb2⟩)
          all_goals skip
          go_ret2
          exact ⟨by rw [HV.out]; rfl, hb2⟩
theorem parseI (s : ByteArray) (w : World) (hs : s.size ≤ 1048576) : Calls Try.prog 60 #[.string s] w fun e w' => e = .returned (parR (parS s.data.toList)) ∧ Below w.heap.size w w' := by
  by_cases h : 0 < s.size
  · by_cases h1 : s[0] = 45
    · exact parseI_neg s w hs h h1
    · exact parseI_pos s w hs h h1
  · exact parseI_empty s w (by omega)
theorem take11_end (s : ByteArray) (j : Nat) (h : ¬ (j < s.size ∧ j < 11)) : (s.data.toList.take 11).drop j = [] := by
  rw [List.drop_eq_nil_iff, List.length_take]; simp; omega
theorem take11_cons (s : ByteArray) (j : Nat) (h : j < s.size) (h2 : j < 11) : (s.data.toList.take 11).drop j = s[j] :: (s.data.toList.take 11).drop (j + 1) := by
  rw [List.drop_take, drop_cons s j h, show 11 - j = (11 - (j + 1)) + 1 by omega, List.take_succ_cons, List.drop_take]
theorem cnt_take (s : ByteArray) (h : s.size ≤ 10) : (s.data.toList.take 11) = s.data.toList := List.take_of_length_le (by simp; omega)

end Go.Proofs.Ytndehfkamfmmeaa
