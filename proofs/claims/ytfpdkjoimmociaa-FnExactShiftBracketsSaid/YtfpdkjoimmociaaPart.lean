/-
  impl.partners and spec.l4Partner, walked.
-/
import Derived.Test.YtfpdkjoimmociaaDyck
import Derived.Test.YtfpdkjoimmociaaInts
import Derived.Test.YtfpdkjoimmociaaPartP
namespace Go.Proofs.Ytfpdkjoimmociaa
open Go.RowKit
def vi (l : List Nat) : List Value := l.map fun n : Nat => Value.int .i64 (n : Int)
theorem vi_len (l : List Nat) : (vi l).length = l.length := by simp [vi]
theorem vi_get (l : List Nat) (i x : Nat) (h : l[i]? = some x) : (vi l)[i]? = some (.int .i64 (x : Int)) := by simp [vi, h]
theorem vi_app (a : List Nat) (x : Nat) : vi (a ++ [x]) = vi a ++ [.int .i64 (x : Int)] := by simp [vi]
theorem vi_set (a : List Nat) (i x : Nat) : vi (a.set i x) = (vi a).set i (.int .i64 (x : Int)) := by simp [vi, List.map_set]
theorem vi_take (a : List Nat) (n : Nat) : vi (a.take n) = (vi a).take n := by simp [vi, List.map_take]
theorem vi_zeros (n : Nat) : vi (List.replicate n 0) = List.replicate n (.int .i64 0) := by simp [vi]
theorem Buf.shrink {w0 w : World} {e : TypeId} {g n cap : Nat} {xs : List Value} (h : Buf w0 w e (.slice (some ⟨g, 0, none⟩) n cap) xs) (m : Nat) (hm : m ≤ n) : Buf w0 w e (.slice (some ⟨g, 0, none⟩) m cap) (xs.take m) := by
  have hl := h.len
  subst hl
  refine ⟨?_, h.bel⟩
  have hlen : (xs.take m).length = m := by rw [List.length_take]; omega
  rw [hlen]
  rcases h.own.2 with ⟨h', _⟩ | ⟨g', cap', cur, hv, hb, hg, hn, hc, hs, ht⟩
  · simp at h'
  · simp only [Value.slice.injEq] at hv
    obtain ⟨h1, _, h3⟩ := hv
    subst h3
    refine ⟨by rw [hlen]; omega, .inr ⟨g, cap, cur, rfl, ?_, ?_, by omega, hc, hs, ?_⟩⟩
    · have : g = g' := by simpa using h1
      rw [this]; exact hb
    · have : g = g' := by simpa using h1
      rw [this]; exact hg
    · rw [← ht, List.take_take]; congr 1; omega
theorem getD_at (s : ByteArray) (j : Nat) (h : j < s.size) : s.data.toList.getD j 0 = s[j] := by
  have := drop_cons s j h
  have e : s.data.toList[j]? = some s[j] := by
    have := congrArg List.head? this
    simpa [List.head?_drop] using this
  simp [List.getD, e]

set_option maxRecDepth 100000 in
set_option maxHeartbeats 1000000 in
theorem partnersI (s : ByteArray) (w : World) (hs : s.size ≤ 16) (hg : hgo 0 s.data.toList = some 0) : Calls Try.prog 98 #[.string s] w fun e w' => ∃ g xs, e = .returned (.slice (some ⟨g, 0, none⟩) s.size s.size) ∧ Buf w w' 3 (.slice (some ⟨g, 0, none⟩) s.size s.size) (vi xs) ∧ (xs.length = s.data.toList.length ∧ ∀ a, a < s.data.toList.length → ∃ b, b < s.data.toList.length ∧ Part s.data.toList a b ∧ xs[a]? = some b) := by
  have HG := Lib.hid hg
  have hlen : s.data.toList.length = s.size := by simp
  have HL := Lib.hid hlen
  clear hg hlen
  go_enter Try.func98, Try.ntmps98
  go_wp2_with (first | (at_make; refine buf_make elInt (Below.refl w.heap.size w) s.size (by omega) rfl _ _ rfl _ _ _ _ rfl rfl rfl rfl ?_; intro w1 hB _))
  have hg1 := hB.lt.2
  have hlit := Buf.lit (w0 := w) (e := 3) hB.bel [] (by decide)
  have hB1 := hB.alloc (.cells #[] 3)
  obtain ⟨g, hgg⟩ : ∃ g, g = w.heap.size := ⟨_, rfl⟩
  rw [← hgg] at hB1 hg1 hB ⊢
  have HGG := Lib.hid hgg
  clear hgg hB
  go_loopw [4, 5] (fun p i wr => ∃ (k : Nat) (ys xs : List Nat), k ≤ s.size ∧ i = .int .i64 (k : Int) ∧ Buf w wr 3 (.slice (some ⟨g, 0, none⟩) s.size s.size) (vi xs) ∧ Buf w wr 3 p (vi ys) ∧ p.ownBlock ≠ some g ∧ ys.length ≤ k ∧ Hid (Stk s.data.toList k ys xs)) (fun _ i _ => s.size - (intOf i).toNat)
  case atStart => exact ⟨0, [], List.replicate s.data.toList.length 0, by omega, rfl, by rw [vi_zeros, HL.out]; exact hB1, hlit, (by show some w1.heap.size ≠ some g; intro hc; cases hc; omega), by simp, Stk.start _⟩
  case round =>
    obtain ⟨k, ys, xs, hk, rfl, hBo, hBp, hne, hyl, HS⟩ := hrel
    by_cases hlt : k < s.size
    · have hgd := getD_at s k hlt
      have hkl : k < s.data.toList.length := by rw [HL.out]; exact hlt
      have hgb := hBo.lt
      by_cases h1 : s[k] = 117
      · have e1 := byte_eq 117 117 h1
        have HS2 := Lib.hid (HS.out.up hkl (by rw [hgd]; exact h1))
        clear hgd h1 HS
        go_wp2_with (at_builtin; refine buf_append1 elInt rfl _ _ rfl hBp rfl rfl rfl (by rw [vi_len]; omega) ?_; intro v2 w2 hB2 hown hgrow)
        have hBo2 := hBo.kept_ hgrow (.inr (fun hc => hne hc.symm)) (fun q hq => (hBp.own.lt q hq).1)
        have hne2 : v2.ownBlock ≠ some g := by
          rcases hown with hc | hc
          · rw [hc]; exact hne
          · rw [hc]; intro hd; cases hd; omega
        go_roundw
        case rel => exact ⟨k + 1, ys ++ [k], xs, by omega, by go_num, hBo2, by rw [vi_app]; exact hB2, hne2, by simp; omega, HS2⟩
        case measure => simp [intOf]; omega
      · have e1 := byte_ne 117 117 h1
        have hc0 : s.data.toList.getD k 0 ≠ 117 := by rw [hgd]; exact h1
        have h0 := HS.out.some_ HG.out hkl hc0
        obtain ⟨M, hM⟩ : ∃ M, ys.length = M + 1 := ⟨ys.length - 1, by omega⟩
        obtain ⟨q, N, cap, rfl, hN⟩ := hBp.form' (by rw [vi_len]; exact h0)
        rw [vi_len, hM] at hN
        subst hN
        have hcap := hBp.cap
        obtain ⟨j, hj⟩ : ∃ j, ys[M]? = some j := ⟨_, List.getElem?_eq_getElem (by omega)⟩
        have hcell : wr.cell? ⟨q, M, none⟩ = some (.int .i64 (j : Int)) := by rw [hBp.cellAt M (by omega)]; exact vi_get _ _ _ hj
        obtain ⟨hji, hS2⟩ := HS.out.down hkl hc0 (by rw [hM]; exact hj) h0
        rw [hM, Nat.add_sub_cancel] at hS2
        have HS2 := Lib.hid hS2
        have hqg : q ≠ g := by intro hc; exact hne (by rw [hc]; rfl)
        have hxl : (vi xs).length = s.size := by rw [vi_len, HS.out.full, HL.out]
        have hjs : j < s.size := by omega
        obtain ⟨u1, hu1⟩ : ∃ u, wr.cell? ⟨g, k, none⟩ = some u := ⟨_, by rw [hBo.cellAt k hlt]; exact List.getElem?_eq_getElem (by omega)⟩
        have hf1 := hBo.frozenAt k
        have hT1 := hBo.set k (.int .i64 (j : Int))
        obtain ⟨u2, hu2⟩ : ∃ u, (wr.setCell ⟨g, k, none⟩ (.int .i64 (j : Int))).cell? ⟨g, j, none⟩ = some u := ⟨_, by rw [hT1.cellAt j hjs]; exact List.getElem?_eq_getElem (by rw [List.length_set]; omega)⟩
        have hf2 := hT1.frozenAt j
        have hT2 := hT1.set j (.int .i64 (k : Int))
        rw [← vi_set, ← vi_set] at hT2
        have hP := ((hBp.shrink M (by omega)).far hgb.1 (by intro hc; exact hqg (Option.some.inj hc)) k (.int .i64 (j : Int))).far hgb.1 (by intro hc; exact hqg (Option.some.inj hc)) j (.int .i64 (k : Int))
        rw [← vi_take] at hP
        have HT := Lib.hid hT2
        have HP := Lib.hid hP
        have hMb : M < 16 := by omega
        have hyM : (ys.take M).length ≤ k + 1 := by rw [List.length_take]; omega
        clear hT2 hP hT1 hS2 hj hM hgd h1 hc0 h0 HS hBo hBp hxl
        go_wp2
        go_roundw
        case rel => exact ⟨k + 1, ys.take M, (xs.set k j).set j k, by omega, by go_num, HT.out, HP.out, hne, hyM, HS2⟩
        case measure => simp [intOf]; omega
    · obtain rfl : k = s.size := by omega
      have HE : Hid (xs.length = s.data.toList.length ∧ ∀ a, a < s.data.toList.length → ∃ b, b < s.data.toList.length ∧ Part s.data.toList a b ∧ xs[a]? = some b) := Stk.end_ (ys := ys) (by rw [HL.out]; exact HS.out) HG.out
      go_wp2
      go_ret
      exact ⟨g, xs, rfl, hBo, HE.out⟩

set_option maxRecDepth 100000 in
set_option maxHeartbeats 1000000 in
theorem partnerS_fwd (s : ByteArray) (i b : Nat) (w : World) (hs : s.size ≤ 16) (hg : hgo 0 s.data.toList = some 0) (hP : Pair s.data.toList i b) : Calls Try.prog 99 #[.string s, .int .i64 (i : Int)] w fun e w' => e = .returned (.int .i64 (b : Int)) ∧ w = w' := by
  have hlen : s.data.toList.length = s.size := by simp
  have hbl : b < s.size := by rw [← hlen]; exact hP.2.1
  have hib := hP.1
  have his : i < s.size := by omega
  have e0 := byte_eq 117 117 (by rw [← getD_at s i his]; exact pair_up hP : s[i] = 117)
  have HP := Lib.hid hP
  have HB := Lib.hid (fun k (hk : k ≤ s.size) => H_pos s.data.toList hg k (by rw [hlen]; exact hk))
  clear hg hlen hP
  go_enter Try.func99, Try.ntmps99
  go_wp2_with fail
  go_loopw [5, 6] (fun hh kk wr => ∃ (k : Nat) (h : Int), i ≤ k ∧ k ≤ b ∧ kk = .int .i64 (k : Int) ∧ hh = .int .i64 h ∧ -16 ≤ h ∧ h ≤ (k : Int) ∧ Hid (h = H s.data.toList k - H s.data.toList i) ∧ wr = w) (fun _ kk _ => s.size - (intOf kk).toNat)
  case atStart => exact ⟨i, 0, by omega, by omega, rfl, rfl, by omega, by omega, (by show (0 : Int) = _; omega), rfl⟩
  case round =>
    obtain ⟨k, h, hik, hkb, rfl, rfl, hh0, hh1, HH, rfl⟩ := hrel
    have hks : k < s.size := by omega
    have hgd := getD_at s k hks
    have hlow : 0 ≤ h := by
      have h2 := HP.out.2.2.2
      have h1 := HH.out
      rcases Nat.lt_or_ge i k with hlt | hge
      · have := h2 k hlt hkb; omega
      · obtain rfl : k = i := by omega
        omega
    by_cases h1 : s[k] = 117
    · have e1 := byte_eq 117 117 h1
      have hu := H_up s.data.toList k (by rw [hgd]; exact h1)
      have HH2 : Hid (h + 1 = H s.data.toList (k + 1) - H s.data.toList i) := by have := HH.out; show _ = _; omega
      have hkb2 : k ≠ b := by
        intro hc; subst hc
        exact pair_down HP.out (by rw [hgd]; exact h1)
      have hz : (h + 1 == 0) = false := by simp; omega
      clear hu hgd h1
      go_wp2
      go_roundw
      case rel => exact ⟨k + 1, h + 1, by omega, by omega, by go_num, by go_num, by omega, by omega, HH2, by first | rfl | trivial⟩
      case measure => simp [intOf]; omega
    · have e1 := byte_ne 117 117 h1
      have hd := H_down s.data.toList k (by rw [hgd]; exact h1)
      have HH2 : Hid (h - 1 = H s.data.toList (k + 1) - H s.data.toList i) := by have := HH.out; show _ = _; omega
      by_cases hkb2 : k = b
      · subst hkb2
        have hz : h = 1 := by
          have h3 := HP.out.2.2.1
          have := HH2.out
          omega
        subst hz
        clear hd hgd h1
        go_wp2
        go_ret
        exact ⟨rfl, rfl⟩
      · have hz : (h - 1 == 0) = false := by
          have h3 := HP.out.2.2.2 (k + 1) (by omega) (by omega)
          have := HH2.out
          simp; omega
        clear hd hgd h1
        go_wp2
        go_roundw
        case rel => exact ⟨k + 1, h - 1, by omega, by omega, by go_num, by go_num, by omega, by omega, HH2, by first | rfl | trivial⟩
        case measure => simp [intOf]; omega
set_option maxRecDepth 100000 in
set_option maxHeartbeats 1000000 in
theorem partnerS_back (s : ByteArray) (i b : Nat) (w : World) (hs : s.size ≤ 16) (hg : hgo 0 s.data.toList = some 0) (hP : Pair s.data.toList b i) : Calls Try.prog 99 #[.string s, .int .i64 (i : Int)] w fun e w' => e = .returned (.int .i64 (b : Int)) ∧ w = w' := by
  have hlen : s.data.toList.length = s.size := by simp
  have his : i < s.size := by rw [← hlen]; exact hP.2.1
  have hbi := hP.1
  have e0 := byte_ne 117 117 (by rw [← getD_at s i his]; exact pair_down hP : s[i] ≠ 117)
  have HP := Lib.hid hP
  have HG := Lib.hid hg
  clear hg hlen hP
  go_enter Try.func99, Try.ntmps99
  go_wp2_with fail
  go_loopw [5, 7] (fun hh kk wr => ∃ (k : Nat) (h : Int), k ≤ i ∧ b ≤ k ∧ kk = .int .i64 (k : Int) ∧ hh = .int .i64 h ∧ -1 ≤ h ∧ h ≤ (s.size : Int) - (k : Int) ∧ Hid (h = H s.data.toList (k + 1) - H s.data.toList (i + 1)) ∧ wr = w) (fun _ kk _ => (intOf kk).toNat)
  case atStart => exact ⟨i, 0, by omega, by omega, rfl, rfl, by omega, by omega, (by show (0 : Int) = _; omega), rfl⟩
  case round =>
    obtain ⟨k, h, hik, hkb, rfl, rfl, hh0, hh1, HH, rfl⟩ := hrel
    have hks : k < s.size := by omega
    have hgd := getD_at s k hks
    have hor : s[k] = 117 ∨ s[k] = 100 := by
      have := drop_cons s k hks
      exact hgo_letters HG.out s[k] (List.mem_of_mem_drop (by rw [this]; simp))
    by_cases h1 : s[k] = 117
    · have e1 : ((s[k].toNat : Int) == 100) = false := byte_ne 100 100 (by rw [h1]; decide)
      have hu := H_up s.data.toList k (by rw [hgd]; exact h1)
      by_cases hkb2 : k = b
      · subst hkb2
        have hz : h = 1 := by
          have h3 := HP.out.2.2.1
          have := HH.out
          omega
        subst hz
        clear hu hgd h1 hor
        go_wp2
        go_ret
        exact ⟨rfl, rfl⟩
      · have h2 := HP.out.2.2.2 k (by omega) hik
        have h3 := HP.out.2.2.1
        have h4 := HH.out
        have hz : (h - 1 == 0) = false := by simp; omega
        obtain ⟨k, rfl⟩ : ∃ q, k = q + 1 := ⟨k - 1, by omega⟩
        have HH2 : Hid (h - 1 = H s.data.toList (k + 1) - H s.data.toList (i + 1)) := by show _ = _; omega
        have hh2 : -1 ≤ h - 1 := by omega
        clear hu hgd h1 hor h2 h3 h4
        go_wp2
        go_roundw
        case rel => exact ⟨k, h - 1, by omega, by omega, by go_num, by go_num, hh2, by omega, HH2, by first | rfl | trivial⟩
        case measure => simp [intOf]
    · have e1 : ((s[k].toNat : Int) == 100) = true := byte_eq 100 100 (hor.resolve_left h1)
      have hd := H_down s.data.toList k (by rw [hgd]; exact h1)
      have hkb2 : k ≠ b := by
        intro hc; subst hc
        exact h1 (by rw [← hgd]; exact pair_up HP.out)
      have h2 := HP.out.2.2.2 k (by omega) hik
      have h3 := HP.out.2.2.1
      have h4 := HH.out
      have hz : (h + 1 == 0) = false := by simp; omega
      obtain ⟨k, rfl⟩ : ∃ q, k = q + 1 := ⟨k - 1, by omega⟩
      have HH2 : Hid (h + 1 = H s.data.toList (k + 1) - H s.data.toList (i + 1)) := by show _ = _; omega
      clear hd hgd h1 hor h2 h3 h4
      go_wp2
      go_roundw
      case rel => exact ⟨k, h + 1, by omega, by omega, by go_num, by go_num, by omega, by omega, HH2, by first | rfl | trivial⟩
      case measure => simp [intOf]
end Go.Proofs.Ytfpdkjoimmociaa
