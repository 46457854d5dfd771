/-
  FirstReturn of both packages and its law, walked; spec.l2Cut.
-/
import Derived.Test.YthbfockobnfomaaHts
namespace Go.Proofs.Ythbfockobnfomaa
open Go.RowKit
/-- How many letters stand ahead of the first d that comes back to the height at which the word begins; h: the height now. -/
def cutGo : Nat → List UInt8 → Option Nat
  | _, [] => none
  | h, c :: r => if c = 117 then (cutGo (h + 1) r).map (· + 1) else if h = 1 then some 0 else (cutGo (h - 1) r).map (· + 1)
theorem cut_some : ∀ (l : List UInt8) (h : Nat), 1 ≤ h → hgo h l = some 0 → ∃ i, cutGo h l = some i ∧ i < l.length := by
  intro l
  induction l with
  | nil => intro h h1 hg; simp [hgo] at hg; omega
  | cons c r ih =>
    intro h h1 hg
    by_cases hc : c = 117
    · subst hc
      rw [hgo_u] at hg
      obtain ⟨i, hi, hlt⟩ := ih (h + 1) (by omega) hg
      exact ⟨i + 1, by simp [cutGo, hi], by simp; omega⟩
    · have hd : c = 100 := (hgo_letters hg c (by simp)).resolve_left hc
      subst hd
      by_cases h2 : h = 1
      · exact ⟨0, by simp [cutGo, h2], by simp⟩
      · obtain ⟨h', rfl⟩ : ∃ h', h = h' + 1 := ⟨h - 1, by omega⟩
        rw [hgo_d] at hg
        obtain ⟨i, hi, hlt⟩ := ih h' (by omega) hg
        exact ⟨i + 1, by simp [cutGo, show ¬ h' = 0 by omega, hi], by simp; omega⟩

set_option maxRecDepth 100000 in
set_option maxHeartbeats 400000 in
/-- spec.l2Cut of a path that is not empty: where it returns first. -/
theorem l2CutS (s : ByteArray) (c : Nat) (w : World) (hs : s.size ≤ 16) (hg : hgo 0 s.data.toList = some 0) (hc : cutGo 0 s.data.toList = some c) : Calls Try.prog 86 #[.string s] w fun e w' => e = .returned (.int .i64 (c : Int)) ∧ w = w' := by
  have HG := Lib.hid hg
  have HC := Lib.hid hc
  clear hg hc
  go_enter Try.func86, Try.ntmps86
  go_wp2_with fail
  go_loop [3, 4] (fun h i => ∃ (k hh : Nat), k ≤ s.size ∧ i = .int .i64 k ∧ h = .int .i64 hh ∧ hh ≤ k ∧ Hid (hgo hh (s.data.toList.drop k) = some 0) ∧ Hid ((cutGo hh (s.data.toList.drop k)).map (· + k) = some c)) (fun _ i => s.size - (intOf i).toNat)
  case atStart => exact ⟨0, 0, by omega, rfl, rfl, by omega, HG.out, (by show _ = _; rw [List.drop_zero, HC.out]; rfl)⟩
  case round =>
    obtain ⟨k, hh, hk, rfl, rfl, hhk, HG, HC⟩ := hrel
    by_cases hlt : k < s.size
    · have hd := drop_cons s k hlt
      have hor := hgo_letters HG.out s[k] (by rw [hd]; simp)
      by_cases h1 : s[k] = 117
      · have e1 := byte_eq 117 117 h1
        have HG2 : Hid (hgo (hh + 1) (s.data.toList.drop (k + 1)) = some 0) := by have := HG.out; rw [hd, h1, hgo_u] at this; exact this
        have HC2 : Hid ((cutGo (hh + 1) (s.data.toList.drop (k + 1))).map (· + (k + 1)) = some c) := by
          have := HC.out; rw [hd, h1] at this; simp only [cutGo, if_pos] at this
          show _ = _; rw [← this]; cases cutGo (hh + 1) (s.data.toList.drop (k + 1)) <;> simp; omega
        have ez : (((hh : Int) + 1) == 0) = false := by rw [beq_eq_false_iff_ne]; omega
        clear hd h1 hor
        go_wp2
        go_round
        case rel => exact ⟨k + 1, hh + 1, by omega, by go_num, by go_num, by omega, HG2, HC2⟩
        case measure => simp [intOf]; omega
      · have e1 := byte_ne 117 117 h1
        have h2 : s[k] = 100 := hor.resolve_left h1
        match hh, hhk, HG, HC with
        | 0, hhk, HG, HC => have := HG.out; rw [hd, h2, hgo_d0] at this; cases this
        | 1, hhk, HG, HC =>
          have HZ : Hid (k = c) := by
            have := HC.out; rw [hd, h2] at this
            simp [cutGo] at this; exact this
          clear hd h1 h2 hor
          go_wp2
          go_ret
          exact ⟨by rw [← HZ.out]; rfl, rfl⟩
        | hh + 2, hhk, HG, HC =>
          have HG2 : Hid (hgo (hh + 1) (s.data.toList.drop (k + 1)) = some 0) := by have := HG.out; rw [hd, h2, hgo_d] at this; exact this
          have HC2 : Hid ((cutGo (hh + 1) (s.data.toList.drop (k + 1))).map (· + (k + 1)) = some c) := by
            have := HC.out; rw [hd, h2] at this
            simp only [cutGo, if_neg (show ¬ (100 : UInt8) = 117 by decide), if_neg (show ¬ hh + 2 = 1 by omega), show hh + 2 - 1 = hh + 1 by omega] at this
            show _ = _; rw [← this]; cases cutGo (hh + 1) (s.data.toList.drop (k + 1)) <;> simp; omega
          have ec : ((hh + 2 : Nat) : Int) = (hh : Int) + 2 := by omega
          have ez : (((hh : Int) + 2 - 1) == 0) = false := by rw [beq_eq_false_iff_ne]; omega
          rw [ec]
          clear hd h1 h2 hor ec
          go_wp2
          go_round
          case rel => exact ⟨k + 1, hh + 1, by omega, by go_num, by go_num, by omega, HG2, HC2⟩
          case measure => simp [intOf]; omega
    · have HZ : Hid False := by have := HC.out; rw [drop_end s k hlt] at this; simp [cutGo] at this
      exact HZ.out.elim

/-- The two parts of a path at its first return. -/
def firstR (s : ByteArray) (c : Nat) : Value := .tuple #[.string (s.extract 1 c), .string (s.extract (c + 1) s.size), .bool true]
theorem cut_pos {l : List UInt8} {c : Nat} (hg : hgo 0 l = some 0) (hc : cutGo 0 l = some c) : 1 ≤ c ∧ c < l.length := by
  match l with
  | [] => simp [cutGo] at hc
  | a :: r =>
    have ha : a = 117 := by
      rcases hgo_letters hg a (by simp) with h | h
      · exact h
      · subst h; rw [hgo_d0] at hg; cases hg
    subst ha
    rw [hgo_u] at hg
    obtain ⟨i, hi, hlt⟩ := cut_some r 1 (by omega) hg
    simp only [cutGo, if_pos, hi, Option.map_some, Option.some.injEq] at hc
    subst hc
    simp; omega


set_option maxRecDepth 100000 in
set_option maxHeartbeats 400000 in
theorem firstI_yes (s : ByteArray) (c : Nat) (w : World) (hs : s.size ≤ 1048576) (hd : dyck s.data.toList = true) (hc : cutGo 0 s.data.toList = some c) : Calls Try.prog 88 #[.string s] w fun e w' => e = .returned (firstR s c) ∧ Below w.heap.size w w' := by
  have hs16 : s.size ≤ 16 := by have := dyck_len hd; simpa using this
  have hcp := cut_pos (dyck_path hd) hc
  have c1 : 1 ≤ c := hcp.1
  have c2 : c < s.size := by simpa using hcp.2
  have hlen : s.data.toList.length = s.size := by simp
  have hne : s.data.toList.isEmpty = false := by
    rw [List.isEmpty_eq_false_iff]; intro h; rw [h] at hlen; simp only [List.length_nil] at hlen; omega
  have hne2 : s.toList.isEmpty = false := by rw [bytes_list]; exact hne
  have HG := Lib.hid (dyck_path hd)
  have HC := Lib.hid hc
  have HS := Lib.hid (fun w => heightsOfI s w hs)
  rw [htsV_yes hd] at HS
  have hn := len_hl s.data.toList
  obtain ⟨l, hl⟩ : ∃ l, l = hl s.data.toList := ⟨_, rfl⟩
  have HLl := Lib.hid hl
  rw [← hl] at HS hn
  have HN : Hid (l.length = s.size + 1) := by rw [hn, hlen]; rfl
  clear hn hl hcp hc hlen
  go_enter Try.func88, Try.ntmps88
  go_wp2_with fail
  refine (isDyckI s _ hs).mono ?_
  rintro e w1 ⟨rfl, hb1⟩
  go_wp2_with fail
  refine (HS.out _).mono ?_
  rintro e w2 ⟨A, cap, rfl, hB⟩
  have HR := Lib.hid hB.rd
  have HL := Lib.hid (below_then hb1 hB.bel)
  clear hB hb1
  rw [HN.out]
  go_wp2_with fail
  go_loop [6] (fun i => ∃ (k hh : Nat), k ≤ s.size ∧ i = .int .i64 ((k : Int) + 1) ∧ hh ≤ k ∧ Hid (hgo hh (s.data.toList.drop k) = some 0) ∧ Hid ((cutGo hh (s.data.toList.drop k)).map (· + k) = some c) ∧ Hid (∀ j, l.getD (k + j) 0 = ((hh : Int) :: hts hh (s.data.toList.drop k)).getD j 0)) (fun i => s.size + 1 - (intOf i).toNat)
  case atStart => exact ⟨0, 0, by omega, rfl, by omega, HG.out, (by show _ = _; rw [List.drop_zero, HC.out]; rfl), (by intro j; rw [HLl.out, Nat.zero_add, List.drop_zero]; rfl)⟩
  case round =>
    obtain ⟨k, hh, hk, rfl, hhk, HG, HC, HT⟩ := hrel
    have hlt : k < s.size := by
      rcases Nat.lt_or_ge k s.size with h | h
      · exact h
      · have := HC.out; rw [drop_end s k (by omega)] at this; simp [cutGo] at this
    have hd := drop_cons s k hlt
    have hor := hgo_letters HG.out s[k] (by rw [hd]; simp)
    obtain ⟨b1, o1, rfl, _, hc1⟩ := HR.out (k + 1) (by rw [HN.out]; omega)
    have hT1 := HT.out 1
    rw [hT1] at hc1
    by_cases h1 : s[k] = 117
    · have HG2 : Hid (hgo (hh + 1) (s.data.toList.drop (k + 1)) = some 0) := by have := HG.out; rw [hd, h1, hgo_u] at this; exact this
      have HC2 : Hid ((cutGo (hh + 1) (s.data.toList.drop (k + 1))).map (· + (k + 1)) = some c) := by
        have := HC.out; rw [hd, h1] at this; simp only [cutGo, if_pos] at this
        show _ = _; rw [← this]; cases cutGo (hh + 1) (s.data.toList.drop (k + 1)) <;> simp; omega
      have HT2 : Hid (∀ j, l.getD (k + 1 + j) 0 = (((hh + 1 : Nat) : Int) :: hts (hh + 1) (s.data.toList.drop (k + 1))).getD j 0) := by
        intro j; have := HT.out (j + 1); rw [hd, h1, hts_u] at this; rw [show k + 1 + j = k + (j + 1) by omega, this]; rfl
      have hx : ((hh : Int) :: hts hh (s.data.toList.drop k)).getD 1 0 = (hh : Int) + 1 := by rw [hd, h1, hts_u]; rfl
      rw [hx] at hc1
      have ez : (((hh : Int) + 1) != 0) = true := by rw [bne_iff_ne]; omega
      clear hd h1 hor hT1 hx
      go_wp2
      go_round
      case rel => exact ⟨k + 1, hh + 1, by omega, by go_num, by omega, HG2, HC2, HT2⟩
      case measure => simp [intOf]; omega
    · have h2 : s[k] = 100 := hor.resolve_left h1
      rcases hh with _ | _ | hh
      · have := HG.out; rw [hd, h2, hgo_d0] at this; cases this
      · have HZ : Hid (k = c) := by
          have := HC.out; rw [hd, h2] at this
          simp [cutGo] at this; exact this
        have hx : (((1 : Nat) : Int) :: hts 1 (s.data.toList.drop k)).getD 1 0 = 0 := by rw [hd, h2, hts_d]; rfl
        rw [hx] at hc1
        obtain rfl : k = c := HZ.out
        clear hd h1 h2 hor hT1 hx HT HG HC
        have ez : ((0 : Int) != 0) = false := rfl
        have k1 : (1 : Int) ≤ (k : Int) := by omega
        have k2 : (k : Int) + 1 ≤ (s.size : Int) := by omega
        have k3 : (0 : Int) ≤ (k : Int) + 1 := by omega
        have k4 : IntKind.i64.wrap ((k : Int) + 1 - 1) = (k : Int) := by rw [show (k : Int) + 1 - 1 = k from by omega]; exact IntWalk.i64_in _ ⟨by omega, by omega⟩
        have k5 : ((k : Int) + 1).toNat = k + 1 := by omega
        have k6 : (k : Int) ≤ (s.size : Int) := by omega
        go_wp2_with fail
        go_quiet (fail)
        go_wp2
        go_ret3
        exact ⟨rfl, below_drewN HL.out _⟩
      · have HG2 : Hid (hgo (hh + 1) (s.data.toList.drop (k + 1)) = some 0) := by have := HG.out; rw [hd, h2, hgo_d] at this; exact this
        have HC2 : Hid ((cutGo (hh + 1) (s.data.toList.drop (k + 1))).map (· + (k + 1)) = some c) := by
          have := HC.out; rw [hd, h2] at this
          simp only [cutGo, if_neg (show ¬ (100 : UInt8) = 117 by decide), if_neg (show ¬ hh + 2 = 1 by omega), show hh + 2 - 1 = hh + 1 by omega] at this
          show _ = _; rw [← this]; cases cutGo (hh + 1) (s.data.toList.drop (k + 1)) <;> simp; omega
        have HT2 : Hid (∀ j, l.getD (k + 1 + j) 0 = (((hh + 1 : Nat) : Int) :: hts (hh + 1) (s.data.toList.drop (k + 1))).getD j 0) := by
          intro j; have := HT.out (j + 1); rw [hd, h2, hts_d] at this; rw [show k + 1 + j = k + (j + 1) by omega, this]; rfl
        have hx : (((hh + 2 : Nat) : Int) :: hts (hh + 2) (s.data.toList.drop k)).getD 1 0 = (hh : Int) + 1 := by rw [hd, h2, hts_d]; rfl
        rw [hx] at hc1
        have ez : (((hh : Int) + 1) != 0) = true := by rw [bne_iff_ne]; omega
        clear hd h1 h2 hor hT1 hx
        go_wp2
        go_round
        case rel => exact ⟨k + 1, hh + 1, by omega, by go_num, by omega, HG2, HC2, HT2⟩
        case measure => simp [intOf]; omega
set_option maxRecDepth 100000 in
theorem firstI_no (s : ByteArray) (w : World) (hs : s.size ≤ 1048576) (h : dyck s.data.toList = false ∨ s.size = 0) : Calls Try.prog 88 #[.string s] w fun e w' => e = .returned (.tuple #[.string ByteArray.empty, .string ByteArray.empty, .bool false]) ∧ Below w.heap.size w w' := by
  cases hd : dyck s.data.toList with
  | false =>
    clear h
    go_enter Try.func88, Try.ntmps88
    go_wp2_with (go_at_call 69; refine (isDyckI s _ hs).mono ?_; rintro e w1 ⟨rfl, hb⟩)
    go_ret3
    exact ⟨rfl, hb⟩
  | true =>
    have h0 : s.size = 0 := by
      rcases h with h | h
      · rw [hd] at h; cases h
      · exact h
    have hlen : s.data.toList.length = s.size := by simp
    have hne : s.data.toList.isEmpty = true := by rw [List.isEmpty_iff]; exact List.eq_nil_of_length_eq_zero (by omega)
    have hne2 : s.toList.isEmpty = true := by rw [bytes_list]; exact hne
    clear h hlen h0
    go_enter Try.func88, Try.ntmps88
    go_wp2_with (go_at_call 69; refine (isDyckI s _ hs).mono ?_; rintro e w1 ⟨rfl, hb⟩)
    go_ret3
    exact ⟨rfl, hb⟩

theorem cut_exists {l : List UInt8} (hg : hgo 0 l = some 0) (h : l ≠ []) : ∃ c, cutGo 0 l = some c := by
  match l, h with
  | a :: r, _ =>
    have ha : a = 117 := by
      rcases hgo_letters hg a (by simp) with h | h
      · exact h
      · subst h; rw [hgo_d0] at hg; cases hg
    subst ha
    rw [hgo_u] at hg
    obtain ⟨i, hi, _⟩ := cut_some r 1 (by omega) hg
    exact ⟨i + 1, by simp [cutGo, hi]⟩
end Go.Proofs.Ythbfockobnfomaa
