/-
  DecodeVarint of both packages and its law, walked.
-/
import Derived.Lib.SlicesS
import Derived.Test.YtndehfkamfmmeaaVarP
namespace Go.Proofs.Ytndehfkamfmmeaa
open Go.RowKit
theorem head_list (s : ByteArray) (k : Nat) (_ : k ≤ s.size) : (⟨⟨s.data.toList.take k⟩⟩ : ByteArray) = s.extract 0 k := by
  apply ByteArray.ext
  apply Array.toList_inj.mp
  simp [ByteArray.data_extract]
theorem getD_byte (s : ByteArray) (j : Nat) (h : j < s.size) : s.data.toList.getD j 0 = s[j] := by
  have := drop_cons s j h
  have e : s.data.toList[j]? = some s[j] := by
    have := congrArg List.head? this
    simpa [List.head?_drop] using this
  simp [List.getD, e]
theorem matchAt_iff (s : ByteArray) (k : Nat) (h : k ≤ s.size) : matchAt s.data.toList k ↔ strOfNums (encV 8 (lowV (s.data.toList.take k))) = s.extract 0 k := by
  unfold matchAt; rw [head_list s k h]

theorem and127_all : ∀ x : Fin 256, bits BinOp.and IntKind.u8 (x.val : Int) 127 = ((x.val % 128 : Nat) : Int) := by decide +kernel
theorem and127_u8 (c : UInt8) : bits BinOp.and IntKind.u8 (c.toNat : Int) 127 = ((c.toNat % 128 : Nat) : Int) := and127_all ⟨c.toNat, c.toNat_lt⟩
theorem pow128 (j : Nat) : (2 : Nat) ^ (7 * j) = 128 ^ j := by rw [Nat.pow_mul]
/-- One more byte at the top. -/
theorem or_top (n j : Nat) (c : UInt8) (hj : j < 7) (hn : n < 128 ^ j) : bits BinOp.or IntKind.i64 (n : Int) (wrap64 (wrap64 (bits BinOp.and IntKind.u8 (c.toNat : Int) 127) * 2 ^ (7 * j))) = ((n + 128 ^ j * (c.toNat % 128) : Nat) : Int) := by
  have hp := pow7 j (by omega)
  have hb : c.toNat % 128 < 128 := Nat.mod_lt _ (by decide)
  have hp6 : 128 ^ j ≤ 4398046511104 := by
    have : (128 : Nat) ^ j ≤ 128 ^ 6 := Nat.pow_le_pow_right (by decide) (by omega)
    have e : (128 : Nat) ^ 6 = 4398046511104 := by decide
    omega
  have hm : 128 ^ j * (c.toNat % 128) < 9223372036854775808 := by
    have : 128 ^ j * (c.toNat % 128) ≤ 128 ^ j * 127 := Nat.mul_le_mul_left _ (by omega)
    omega
  have e2 : ((2 : Int) ^ (7 * j)) = ((128 ^ j : Nat) : Int) := by rw [← pow128]; simp
  rw [and127_u8, IntWalk.wrap64_in ((c.toNat % 128 : Nat) : Int) (by omega), e2, ← Int.natCast_mul, Nat.mul_comm, IntWalk.wrap64_in _ (by omega), or_i64 _ _ (by omega) hm]
  have := Nat.two_pow_add_eq_or_of_lt (i := 7 * j) (b := n) (by rw [pow128]; exact hn) (c.toNat % 128)
  rw [pow128] at this
  rw [Nat.or_comm, ← this, Nat.add_comm]

set_option maxRecDepth 100000 in
set_option maxHeartbeats 1000000 in
theorem decodeVarintI (s : ByteArray) (w : World) (hs : s.size ≤ 1048576) : Calls Try.prog 52 #[.string s] w fun e w' => e = .returned (decR (decV s.data.toList)) ∧ Below w.heap.size w w' := by
  go_enter Try.func52, Try.ntmps52
  go_wp2_with fail
  go_loopw [4, 5] (fun nn i wr => ∃ (j n : Nat), j ≤ s.size ∧ j ≤ 7 ∧ i = .int .i64 (j : Int) ∧ nn = .int .i64 (n : Int) ∧ n < 562949953421312 ∧ Hid (n = lowV (s.data.toList.take j)) ∧ Hid (∀ i, i < j → 128 ≤ (s.data.toList.getD i 0).toNat) ∧ wr = w) (fun _ i _ => 7 - (intOf i).toNat)
  case atStart => exact ⟨0, 0, by omega, by omega, rfl, rfl, by omega, rfl, (by intro i hi; omega), rfl⟩
  case round =>
    obtain ⟨j, n, hj, hj7, rfl, rfl, hn, HN, HB, rfl⟩ := hrel
    by_cases hlt : j < s.size ∧ j < 7
    · have hl1 := hlt.1
      have hl2 := hlt.2
      clear hlt
      have hb := s[j].toNat_lt
      have hnj : n < 128 ^ j := by
        have h1 := lowV_lt (s.data.toList.take j)
        rw [← HN.out, List.length_take] at h1
        have : min j s.data.toList.length = j := by simp; omega
        rw [this] at h1; exact h1
      have hor := or_top n j s[j] hl2 hnj
      have hlen : (s.data.toList.take j).length = j := by rw [List.length_take]; simp; omega
      have hm : n + 128 ^ j * (s[j].toNat % 128) = lowV (s.data.toList.take (j + 1)) := by
        rw [take_snoc s j hl1, lowV_snoc, ← HN.out, hlen]
      have hml : lowV (s.data.toList.take (j + 1)) < 562949953421312 := by
        have h1 := lowV_lt (s.data.toList.take (j + 1))
        have h2 := pow7 (s.data.toList.take (j + 1)).length (by rw [List.length_take]; omega)
        omega
      rw [hm] at hor
      obtain ⟨m, hM⟩ : ∃ m, m = lowV (s.data.toList.take (j + 1)) := ⟨_, rfl⟩
      rw [← hM] at hor hml
      have HM := Lib.hid hM
      clear hnj hlen hm hM
      by_cases hsm : s[j].toNat < 128
      · have hV := dec_at s.data.toList j hl2 (by simp; omega) HB.out (by rw [getD_byte s j hl1]; exact hsm)
        have HC := Lib.hid (fun w => encodeVarintI_yes m w (by omega))
        have hwr : IntKind.i64.wrap ((j : Int) + 1) = (j : Int) + 1 := by rw [IntKind.wrap_i64]; omega
        have hsz : 0 ≤ IntKind.i64.wrap ((j : Int) + 1) ∧ IntKind.i64.wrap ((j : Int) + 1) ≤ (s.size : Int) := by rw [hwr]; omega
        have hsz2 : (IntKind.i64.wrap ((j : Int) + 1)).toNat = j + 1 := by rw [hwr]; omega
        clear hwr
        have hd1 : decide ((s[j].toNat : Int) < 128) = true := by simp only [decide_eq_true_eq]; omega
        by_cases hmt : matchAt s.data.toList (j + 1)
        · have HV := Lib.hid (hV.trans (if_pos hmt))
          rw [← HM.out] at HV
          have he := (matchAt_iff s (j + 1) (by omega)).mp hmt
          rw [← HM.out] at he
          rw [he] at HC
          clear hV hmt he
          go_wp2_with fail
          go_region_with (go_at_call 51; refine (HC.out _).mono ?_; rintro e w2 ⟨rfl, hb2⟩)
          all_goals
            go_wp2_with fail
            go_ret2
            exact ⟨by rw [HV.out]; rfl, by first | exact hb2 | exact below_then (Below.refl _ wr).drew hb2⟩
        · have HV := Lib.hid (hV.trans (if_neg hmt))
          obtain ⟨o, ho⟩ : ∃ o, o = strOfNums (encV 8 m) := ⟨_, rfl⟩
          have he : o ≠ s.extract 0 (j + 1) := by
            rw [ho]; intro hc
            exact hmt ((matchAt_iff s (j + 1) (by omega)).mpr (by rw [← HM.out]; exact hc))
          have he1 : (o.toList == (s.extract 0 (j + 1)).toList) = false := (Lib.bytes_beq_false_iff _ _).2 he
          have he2 : (o.toList != (s.extract 0 (j + 1)).toList) = true := by unfold bne; rw [he1]; rfl
          rw [← ho] at HC
          clear hV hmt he ho
          go_wp2_with fail
          go_region_with (go_at_call 51; refine (HC.out _).mono ?_; rintro e w2 ⟨rfl, hb2⟩)
          all_goals
            go_wp2_with fail
            go_ret2
            exact ⟨by rw [HV.out]; rfl, by first | exact hb2 | exact below_then (Below.refl _ wr).drew hb2⟩
      · have hd1 : decide ((s[j].toNat : Int) < 128) = false := by simp only [decide_eq_false_iff_not]; omega
        have HB2 : Hid (∀ i, i < j + 1 → 128 ≤ (s.data.toList.getD i 0).toNat) := by
          intro i hi
          rcases Nat.lt_or_ge i j with h | h
          · exact HB.out i h
          · obtain rfl : i = j := by omega
            rw [getD_byte s i hl1]; omega
        go_wp2
        go_roundw
        case rel => exact ⟨j + 1, m, by omega, by omega, by go_num, rfl, hml, HM, HB2, by first | rfl | trivial⟩
        case measure => simp [intOf]; omega
    · have HV : Hid (decV s.data.toList = none) := by
        refine dec_not _ ?_
        intro i h1 h2
        exact HB.out i (by simp at h2; omega)
      go_wp2
      all_goals
        go_ret2
        exact ⟨by rw [HV.out]; rfl, Below.refl _ _⟩
theorem low_part (s : ByteArray) (k r : Nat) (h : r < k) (hk : k ≤ s.size) : lowV ((s.data.toList.take k).drop r) = s[r].toNat % 128 + 128 * lowV ((s.data.toList.take k).drop (r + 1)) := by
  rw [List.drop_take, drop_cons s r (by omega), show k - r = (k - (r + 1)) + 1 by omega, List.take_succ_cons, List.drop_take]
  rfl
theorem low_small (l : List UInt8) (k r : Nat) (hk : k ≤ 7) : lowV ((l.take k).drop r) < 562949953421312 := by
  have h1 := lowV_lt ((l.take k).drop r)
  have h2 := pow7 ((l.take k).drop r).length (by rw [List.length_drop, List.length_take]; omega)
  omega

end Go.Proofs.Ytndehfkamfmmeaa
