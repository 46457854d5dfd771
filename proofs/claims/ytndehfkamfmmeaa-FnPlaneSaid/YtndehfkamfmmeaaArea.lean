/-
  ReturnsOf and AreaOf of both packages and their laws, walked.
-/
import Derived.Test.YtndehfkamfmmeaaHts
namespace Go.Proofs.Ytndehfkamfmmeaa
open Go.RowKit
def retV (l : List UInt8) : Int := ((htsV l).count 0 : Int) - 1
theorem count_snoc (l : List Int) (k : Nat) (h : k < l.length) : (l.take (k + 1)).count 0 = (l.take k).count 0 + if l.getD k 0 = 0 then 1 else 0 := by
  rw [List.take_succ_eq_append_getElem h, List.count_append, List.count_singleton]
  simp [List.getD, h]
theorem count_le' (l : List Int) (k : Nat) : (l.take k).count 0 ≤ k := Nat.le_trans List.count_le_length (by simp; omega)


/-- The sum of the heights before the letters u. -/
def areaGo : List UInt8 → List Int → Int
  | c :: r, h :: t => (if c = 117 then h else 0) + areaGo r t
  | _, _ => 0
def areaV (l : List UInt8) : Int := if dyck l = true then areaGo l (hl l) else -1
theorem areaV_yes {l : List UInt8} (h : dyck l = true) : areaV l = areaGo l (hl l) := if_pos h
theorem areaV_no {l : List UInt8} (h : dyck l = false) : areaV l = -1 := if_neg (by rw [h]; simp)
theorem area_u (r : List UInt8) (h : Int) (t : List Int) : areaGo (117 :: r) (h :: t) = h + areaGo r t := by simp [areaGo]
theorem area_x (c : UInt8) (r : List UInt8) (h : Int) (t : List Int) (hc : c ≠ 117) : areaGo (c :: r) (h :: t) = areaGo r t := by simp [areaGo, hc]
theorem hts_range (l : List UInt8) : ∀ h, ∀ x ∈ hts h l, 0 ≤ x ∧ x ≤ (h : Int) + l.length := by
  induction l with
  | nil => intro h x hx; cases hx
  | cons c r ih =>
    intro h x hx
    simp only [hts] at hx
    split at hx
    · rcases List.mem_cons.1 hx with rfl | hx
      · simp; omega
      · have := ih _ x hx; simp at this ⊢; omega
    · rcases List.mem_cons.1 hx with rfl | hx
      · simp; omega
      · have := ih _ x hx; simp at this ⊢; omega
theorem hl_range (l : List UInt8) (k : Nat) : 0 ≤ (hl l).getD k 0 ∧ (hl l).getD k 0 ≤ l.length := by
  match k with
  | 0 => simp [hl]
  | k + 1 =>
    have e : (hl l).getD (k + 1) 0 = (hts 0 l).getD k 0 := rfl
    rw [e]
    by_cases h : k < (hts 0 l).length
    · have := hts_range l 0 ((hts 0 l).getD k 0) (by simp [List.getD, h])
      simp at this ⊢; omega
    · simp [List.getD, List.getElem?_eq_none (Nat.le_of_not_lt h)]

set_option maxRecDepth 100000 in
set_option maxHeartbeats 400000 in
theorem areaI_yes (s : ByteArray) (w : World) (hs : s.size ≤ 1048576) (hd : dyck s.data.toList = true) : Calls Try.prog 39 #[.string s] w fun e w' => e = .returned (.int .i64 (areaV s.data.toList)) ∧ Below w.heap.size w w' := by
  have hs16 : s.size ≤ 16 := by have := dyck_len hd; simpa using this
  have HS := Lib.hid (fun w => heightsOfI s w hs)
  have HV := Lib.hid (areaV_yes hd)
  have HRg := Lib.hid (hl_range s.data.toList)
  rw [htsV_yes hd] at HS
  have hn := len_hl s.data.toList
  obtain ⟨l, hl⟩ : ∃ l, l = hl s.data.toList := ⟨_, rfl⟩
  rw [← hl] at HS hn HV HRg
  clear hl
  have HN : Hid (l.length = s.size + 1) := by rw [hn]; show _ = _; simp
  clear hn
  go_enter Try.func39, Try.ntmps39
  go_wp2_with fail
  refine (isDyckI s _ hs).mono ?_
  rintro e w1 ⟨rfl, hb1⟩
  go_wp2_with fail
  refine (HS.out _).mono ?_
  rintro e w2 ⟨A, c, rfl, hB⟩
  have HR := Lib.hid hB.rd
  have HL := Lib.hid (below_then hb1 hB.bel)
  clear hB hb1
  rw [HN.out]
  go_wp2_with fail
  go_loop [3, 5] (fun m i => ∃ (k : Nat) (z : Int), k ≤ s.size ∧ i = .int .i64 k ∧ m = .int .i64 z ∧ 0 ≤ z ∧ z ≤ 16 * (k : Int) ∧ Hid (z + areaGo (s.data.toList.drop k) (l.drop k) = areaGo s.data.toList l)) (fun _ i => s.size - (intOf i).toNat)
  case atStart => exact ⟨0, 0, by omega, rfl, rfl, by omega, by omega, (by show 0 + _ = _; simp)⟩
  case round =>
    obtain ⟨k, z, hk, rfl, rfl, hz1, hz2, HC⟩ := hrel
    by_cases hlt : k < s.size
    · obtain ⟨b1, o1, rfl, _, hc1⟩ := HR.out k (by rw [HN.out]; omega)
      have hdc := drop_cons s k hlt
      have hdl : l.drop k = l.getD k 0 :: l.drop (k + 1) := by
        rw [List.drop_eq_getElem_cons (by rw [HN.out]; omega)]; congr 1; simp [List.getD, show k < l.length by rw [HN.out]; omega]
      have hrg := HRg.out k
      obtain ⟨x, hx⟩ : ∃ x, x = l.getD k 0 := ⟨_, rfl⟩
      rw [← hx] at hc1 hdl hrg
      have hr1 : 0 ≤ x := hrg.1
      have hr2 : x ≤ 16 := by have := hrg.2; simp at this; omega
      clear hx hrg
      by_cases h1 : s[k] = 117
      · have e1 := byte_eq 117 117 h1
        have HC2 : Hid (z + x + areaGo (s.data.toList.drop (k + 1)) (l.drop (k + 1)) = areaGo s.data.toList l) := by
          have := HC.out; rw [hdc, hdl, h1, area_u] at this; show _ = _; omega
        clear hdc hdl h1
        go_wp2
        go_round
        case rel => exact ⟨k + 1, z + x, by omega, by go_num, rfl, by omega, by omega, HC2⟩
        case measure => simp [intOf]; omega
      · have e1 := byte_ne 117 117 h1
        have HC2 : Hid (z + areaGo (s.data.toList.drop (k + 1)) (l.drop (k + 1)) = areaGo s.data.toList l) := by
          have := HC.out; rw [hdc, hdl, area_x _ _ _ _ h1] at this; exact this
        clear hdc hdl h1
        go_wp2
        go_round
        case rel => exact ⟨k + 1, z, by omega, by go_num, rfl, by omega, by omega, HC2⟩
        case measure => simp [intOf]; omega
    · have HZ : Hid (areaV s.data.toList = z) := by
        have h1 := HC.out
        rw [drop_end s k hlt] at h1
        rw [HV.out]; show _ = _
        simp only [areaGo] at h1; omega
      go_wp2
      go_ret
      exact ⟨by rw [HZ.out]; rfl, HL.out⟩
theorem areaI_no (s : ByteArray) (w : World) (hs : s.size ≤ 1048576) (hd : dyck s.data.toList = false) : Calls Try.prog 39 #[.string s] w fun e w' => e = .returned (.int .i64 (areaV s.data.toList)) ∧ Below w.heap.size w w' := by
  have HV := Lib.hid (areaV_no hd)
  go_enter Try.func39, Try.ntmps39
  go_wp2_with (go_at_call 65; refine (isDyckI s _ hs).mono ?_; rintro e w1 ⟨rfl, hb⟩)
  go_ret
  exact ⟨by rw [HV.out]; rfl, hb⟩
theorem areaI (s : ByteArray) (w : World) (hs : s.size ≤ 1048576) : Calls Try.prog 39 #[.string s] w fun e w' => e = .returned (.int .i64 (areaV s.data.toList)) ∧ Below w.heap.size w w' := by
  cases hd : dyck s.data.toList with
  | true => exact areaI_yes s w hs hd
  | false => exact areaI_no s w hs hd
end Go.Proofs.Ytndehfkamfmmeaa
