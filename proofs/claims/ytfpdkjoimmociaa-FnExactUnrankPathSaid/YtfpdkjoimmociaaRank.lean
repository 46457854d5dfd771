/-
  RankPath of both packages and its law, walked.
-/
import Derived.Test.YtfpdkjoimmociaaDyck
import Derived.Test.YtfpdkjoimmociaaBalL
namespace Go.Proofs.Ytfpdkjoimmociaa
open Go.RowKit
theorem hgo_len : ∀ (l : List UInt8) (h : Nat), hgo h l = some 0 → h ≤ l.length := by
  intro l
  induction l with
  | nil => intro h hg; simp [hgo] at hg; omega
  | cons c r ih =>
    intro h hg
    rcases hgo_letters hg c (by simp) with rfl | rfl
    · rw [hgo_u] at hg; have := ih _ hg; simp; omega
    · cases h with
      | zero => omega
      | succ h => rw [hgo_d] at hg; have := ih _ hg; simp; omega
/-- What the letters of a word add to its rank. -/
def rankGo : Nat → Nat → List UInt8 → Int
  | _, _, [] => 0
  | up, down, c :: r => if c = 117 then rankGo (up - 1) down r else (if up = 0 then 0 else balV (up - 1) down) + rankGo up (down - 1) r
def rankV (l : List UInt8) : Int := if dyck l = true then rankGo (l.length / 2) (l.length / 2) l else -1
theorem rankV_yes {l : List UInt8} (h : dyck l = true) : rankV l = rankGo (l.length / 2) (l.length / 2) l := if_pos h
theorem rankV_no {l : List UInt8} (h : dyck l = false) : rankV l = -1 := if_neg (by rw [h]; simp)
theorem rank_u (up down : Nat) (r : List UInt8) : rankGo (up + 1) down (117 :: r) = rankGo up down r := by simp [rankGo]
theorem rank_d (up down : Nat) (r : List UInt8) : rankGo up (down + 1) (100 :: r) = (if up = 0 then 0 else balV (up - 1) (down + 1)) + rankGo up down r := by simp [rankGo]
theorem balV_range (u d : Nat) (hd : d ≤ 15) (hu : u ≤ 15) : 0 ≤ balV u d ∧ balV u d ≤ 100000000 := by
  have := rows_le d u d hd hu
  unfold balV; omega
theorem even_len : ∀ (l : List UInt8) (h : Nat), hgo h l = some 0 → (l.length + h) % 2 = 0 := by
  intro l
  induction l with
  | nil => intro h hg; simp [hgo] at hg; subst hg; rfl
  | cons c r ih =>
    intro h hg
    rcases hgo_letters hg c (by simp) with rfl | rfl
    · rw [hgo_u] at hg; have := ih _ hg; simp; omega
    · cases h with
      | zero => rw [hgo_d0] at hg; cases hg
      | succ h => rw [hgo_d] at hg; have := ih _ hg; simp; omega

set_option maxRecDepth 100000 in
set_option maxHeartbeats 1000000 in
theorem rankI_yes (s : ByteArray) (w : World) (hs : s.size ≤ 1048576) (hd : dyck s.data.toList = true) : Calls Try.prog 65 #[.string s] w fun e w' => e = .returned (.int .i64 (rankV s.data.toList)) ∧ Below w.heap.size w w' := by
  have hs16 : s.size ≤ 16 := by have := dyck_len hd; simpa using this
  have hlen : s.data.toList.length = s.size := by simp
  have HV := Lib.hid (rankV_yes hd)
  rw [hlen] at HV
  have hev := even_len _ _ (dyck_path hd)
  obtain ⟨n, hn⟩ : ∃ n, s.size = 2 * n := ⟨s.size / 2, by rw [hlen] at hev; omega⟩
  have hn2 : s.size / 2 = n := by omega
  rw [hn2] at HV
  have HG := Lib.hid (dyck_path hd)
  have HN := Lib.hid hn
  have e2 : (s.size : Int) / 2 = (n : Int) := by omega
  have hn8 : n ≤ 8 := by omega
  clear hlen hev hn hn2
  go_enter Try.func65, Try.ntmps65
  go_wp2_with fail
  refine (isDyckI s _ hs).mono ?_
  rintro e w1 ⟨rfl, hb1⟩
  go_wp2_with fail
  go_loopw [3, 4, 5, 6] (fun z u d i wr => ∃ (j up hh : Nat) (q : Int), j ≤ s.size ∧ up ≤ n ∧ up + hh ≤ n ∧ i = .int .i64 (j : Int) ∧ u = .int .i64 (up : Int) ∧ d = .int .i64 (((up + hh : Nat) : Nat) : Int) ∧ z = .int .i64 q ∧ 0 ≤ q ∧ q ≤ 100000000 * (j : Int) ∧ Hid (hgo hh (s.data.toList.drop j) = some 0 ∧ j + up + (up + hh) = s.size) ∧ Hid (q + rankGo up (up + hh) (s.data.toList.drop j) = rankGo n n s.data.toList) ∧ Below w.heap.size w wr) (fun _ _ _ i _ => s.size - (intOf i).toNat)
  case atStart => exact ⟨0, n, 0, 0, by omega, by omega, by omega, rfl, rfl, rfl, rfl, by omega, by omega, ⟨HG.out, by have := HN.out; omega⟩, (by show 0 + _ = _; rw [List.drop_zero]; simp), hb1⟩
  case round =>
    obtain ⟨j, up, hh, q, hj, hup, huh, rfl, rfl, rfl, rfl, hq1, hq2, HI, HR, hbr⟩ := hrel
    by_cases hlt : j < s.size
    · have hd := drop_cons s j hlt
      have hg := HI.out.1
      have hsz := HI.out.2
      have hor := hgo_letters hg s[j] (by rw [hd]; simp)
      by_cases h1 : s[j] = 117
      · have e1 := byte_eq 117 117 h1
        rw [hd, h1, hgo_u] at hg
        have hl := hgo_len _ _ hg
        have hlen : (s.data.toList.drop (j + 1)).length = s.size - (j + 1) := by simp
        obtain ⟨up, rfl⟩ : ∃ u, up = u + 1 := ⟨up - 1, by omega⟩
        have HI2 : Hid (hgo (hh + 1) (s.data.toList.drop (j + 1)) = some 0 ∧ j + 1 + up + (up + (hh + 1)) = s.size) := ⟨hg, by omega⟩
        have HR2 : Hid (q + rankGo up (up + (hh + 1)) (s.data.toList.drop (j + 1)) = rankGo n n s.data.toList) := by
          have := HR.out; rw [hd, h1, rank_u, show up + 1 + hh = up + (hh + 1) by omega] at this; exact this
        clear hd h1 hor hg hl hlen hsz
        go_wp2
        go_roundw
        case rel => exact ⟨j + 1, up, hh + 1, q, by omega, by omega, by omega, by go_num, by go_num, by go_num, rfl, by omega, by omega, HI2, HR2, hbr⟩
        case measure => simp [intOf]; omega
      · have e1 := byte_ne 117 117 h1
        have h2 : s[j] = 100 := hor.resolve_left h1
        cases hh with
        | zero => rw [hd, h2, hgo_d0] at hg; cases hg
        | succ hh =>
          rw [hd, h2, hgo_d] at hg
          have HI2 : Hid (hgo hh (s.data.toList.drop (j + 1)) = some 0 ∧ j + 1 + up + (up + hh) = s.size) := ⟨hg, by omega⟩
          by_cases hu0 : up = 0
          · subst hu0
            have HR2 : Hid (q + rankGo 0 (0 + hh) (s.data.toList.drop (j + 1)) = rankGo n n s.data.toList) := by
              have := HR.out; rw [hd, h2, show 0 + (hh + 1) = (0 + hh) + 1 by omega, rank_d, if_pos rfl] at this; show _ = _; omega
            clear hd h1 h2 hor hg hsz
            go_wp2
            go_roundw
            case rel => exact ⟨j + 1, 0, hh, q, by omega, by omega, by omega, by go_num, rfl, by go_num, rfl, by omega, by omega, HI2, HR2, hbr⟩
            case measure => simp [intOf]; omega
          · obtain ⟨up, rfl⟩ : ∃ u, up = u + 1 := ⟨up - 1, by omega⟩
            have HC := Lib.hid (fun w => ballotI_yes up (up + hh + 2) w (by omega) (by omega))
            have hbd := balV_range up (up + hh + 2) (by omega) (by omega)
            obtain ⟨v, hv⟩ : ∃ v, v = balV up (up + hh + 2) := ⟨_, rfl⟩
            have HR2 : Hid (q + v + rankGo (up + 1) (up + 1 + hh) (s.data.toList.drop (j + 1)) = rankGo n n s.data.toList) := by
              have := HR.out; rw [hd, h2, show up + 1 + (hh + 1) = (up + 1 + hh) + 1 by omega, rank_d, if_neg (by omega), show up + 1 - 1 = up by omega, show up + 1 + hh + 1 = up + hh + 2 by omega, ← hv] at this; show _ = _; omega
            rw [← hv] at HC hbd
            rw [show ((up + hh + 2 : Nat) : Int) = (up : Int) + (hh : Int) + 2 from by omega] at HC
            have hv1 : 0 ≤ v := hbd.1
            have hv2 : v ≤ 100000000 := hbd.2
            rw [show ((up + 1 + (hh + 1) : Nat) : Int) = (up : Int) + (hh : Int) + 2 from by omega, show ((up + 1 : Nat) : Int) = (up : Int) + 1 from by omega]
            clear hd h1 h2 hor hg hsz hv hu0 hbd
            go_wp2_with (go_at_call 96; refine (HC.out _).mono ?_; rintro e w2 ⟨rfl, hb2⟩)
            go_roundw
            case rel => exact ⟨j + 1, up + 1, hh, q + v, by omega, by omega, by omega, by go_num, by go_num, by go_num, rfl, by omega, by omega, HI2, HR2, below_then hbr hb2⟩
            case measure => simp [intOf]; omega
    · have HZ : Hid (rankV s.data.toList = q) := by
        have := HR.out; rw [drop_end s j hlt] at this
        rw [HV.out]; simp only [rankGo] at this; show _ = _; omega
      go_wp2
      go_ret
      exact ⟨by rw [HZ.out]; rfl, hbr⟩
theorem rankI (s : ByteArray) (w : World) (hs : s.size ≤ 1048576) : Calls Try.prog 65 #[.string s] w fun e w' => e = .returned (.int .i64 (rankV s.data.toList)) ∧ Below w.heap.size w w' := by
  cases hd : dyck s.data.toList with
  | true => exact rankI_yes s w hs hd
  | false =>
    have HV := Lib.hid (rankV_no hd)
    go_enter Try.func65, Try.ntmps65
    go_wp2_with (go_at_call 26; refine (isDyckI s _ hs).mono ?_; rintro e w' ⟨rfl, hb⟩)
    go_ret
    exact ⟨by rw [HV.out]; rfl, hb⟩
set_option maxRecDepth 100000 in
set_option maxHeartbeats 1000000 in
theorem rankS_yes (s : ByteArray) (w : World) (hs : s.size ≤ 1048576) (hd : dyck s.data.toList = true) : Calls Try.prog 64 #[.string s] w fun e w' => e = .returned (.int .i64 (rankV s.data.toList)) ∧ Below w.heap.size w w' := by
  have hs16 : s.size ≤ 16 := by have := dyck_len hd; simpa using this
  have hlen : s.data.toList.length = s.size := by simp
  have HV := Lib.hid (rankV_yes hd)
  rw [hlen] at HV
  have hev := even_len _ _ (dyck_path hd)
  obtain ⟨n, hn⟩ : ∃ n, s.size = 2 * n := ⟨s.size / 2, by rw [hlen] at hev; omega⟩
  have hn2 : s.size / 2 = n := by omega
  rw [hn2] at HV
  have HG := Lib.hid (dyck_path hd)
  have HN := Lib.hid hn
  have e2 : (s.size : Int) / 2 = (n : Int) := by omega
  have hn8 : n ≤ 8 := by omega
  clear hlen hev hn hn2
  go_enter Try.func64, Try.ntmps64
  go_wp2_with fail
  refine (isDyckS s _ hs).mono ?_
  rintro e w1 ⟨rfl, rfl⟩
  go_wp2_with fail
  go_loopw [5, 3, 4, 6] (fun z u d i wr => ∃ (j up hh : Nat) (q : Int), j ≤ s.size ∧ up ≤ n ∧ up + hh ≤ n ∧ i = .int .i64 (j : Int) ∧ u = .int .i64 (up : Int) ∧ d = .int .i64 (((up + hh : Nat) : Nat) : Int) ∧ z = .int .i64 q ∧ 0 ≤ q ∧ q ≤ 100000000 * (j : Int) ∧ Hid (hgo hh (s.data.toList.drop j) = some 0 ∧ j + up + (up + hh) = s.size) ∧ Hid (q + rankGo up (up + hh) (s.data.toList.drop j) = rankGo n n s.data.toList) ∧ Below w.heap.size w wr) (fun _ _ _ i _ => s.size - (intOf i).toNat)
  case atStart => exact ⟨0, n, 0, 0, by omega, by omega, by omega, rfl, rfl, rfl, rfl, by omega, by omega, ⟨HG.out, by have := HN.out; omega⟩, (by show 0 + _ = _; rw [List.drop_zero]; simp), Below.refl _ _⟩
  case round =>
    obtain ⟨j, up, hh, q, hj, hup, huh, rfl, rfl, rfl, rfl, hq1, hq2, HI, HR, hbr⟩ := hrel
    by_cases hlt : j < s.size
    · have hd := drop_cons s j hlt
      have hg := HI.out.1
      have hsz := HI.out.2
      have hor := hgo_letters hg s[j] (by rw [hd]; simp)
      by_cases h1 : s[j] = 117
      · have e1 := byte_eq 117 117 h1
        rw [hd, h1, hgo_u] at hg
        have hl := hgo_len _ _ hg
        have hlen : (s.data.toList.drop (j + 1)).length = s.size - (j + 1) := by simp
        obtain ⟨up, rfl⟩ : ∃ u, up = u + 1 := ⟨up - 1, by omega⟩
        have HI2 : Hid (hgo (hh + 1) (s.data.toList.drop (j + 1)) = some 0 ∧ j + 1 + up + (up + (hh + 1)) = s.size) := ⟨hg, by omega⟩
        have HR2 : Hid (q + rankGo up (up + (hh + 1)) (s.data.toList.drop (j + 1)) = rankGo n n s.data.toList) := by
          have := HR.out; rw [hd, h1, rank_u, show up + 1 + hh = up + (hh + 1) by omega] at this; exact this
        clear hd h1 hor hg hl hlen hsz
        go_wp2
        go_roundw
        case rel => exact ⟨j + 1, up, hh + 1, q, by omega, by omega, by omega, by go_num, by go_num, by go_num, rfl, by omega, by omega, HI2, HR2, hbr⟩
        case measure => simp [intOf]; omega
      · have e1 := byte_ne 117 117 h1
        have h2 : s[j] = 100 := hor.resolve_left h1
        cases hh with
        | zero => rw [hd, h2, hgo_d0] at hg; cases hg
        | succ hh =>
          rw [hd, h2, hgo_d] at hg
          have HI2 : Hid (hgo hh (s.data.toList.drop (j + 1)) = some 0 ∧ j + 1 + up + (up + hh) = s.size) := ⟨hg, by omega⟩
          by_cases hu0 : up = 0
          · subst hu0
            have HR2 : Hid (q + rankGo 0 (0 + hh) (s.data.toList.drop (j + 1)) = rankGo n n s.data.toList) := by
              have := HR.out; rw [hd, h2, show 0 + (hh + 1) = (0 + hh) + 1 by omega, rank_d, if_pos rfl] at this; show _ = _; omega
            clear hd h1 h2 hor hg hsz
            go_wp2
            go_roundw
            case rel => exact ⟨j + 1, 0, hh, q, by omega, by omega, by omega, by go_num, rfl, by go_num, rfl, by omega, by omega, HI2, HR2, hbr⟩
            case measure => simp [intOf]; omega
          · obtain ⟨up, rfl⟩ : ∃ u, up = u + 1 := ⟨up - 1, by omega⟩
            have HC := Lib.hid (fun w => waysS up (up + hh + 2) w (by omega) (by omega))
            have hbd := balV_range up (up + hh + 2) (by omega) (by omega)
            obtain ⟨v, hv⟩ : ∃ v, v = balV up (up + hh + 2) := ⟨_, rfl⟩
            have HR2 : Hid (q + v + rankGo (up + 1) (up + 1 + hh) (s.data.toList.drop (j + 1)) = rankGo n n s.data.toList) := by
              have := HR.out; rw [hd, h2, show up + 1 + (hh + 1) = (up + 1 + hh) + 1 by omega, rank_d, if_neg (by omega), show up + 1 - 1 = up by omega, show up + 1 + hh + 1 = up + hh + 2 by omega, ← hv] at this; show _ = _; omega
            rw [← hv] at HC hbd
            rw [show ((up + hh + 2 : Nat) : Int) = (up : Int) + (hh : Int) + 2 from by omega] at HC
            have hv1 : 0 ≤ v := hbd.1
            have hv2 : v ≤ 100000000 := hbd.2
            rw [show ((up + 1 + (hh + 1) : Nat) : Int) = (up : Int) + (hh : Int) + 2 from by omega, show ((up + 1 : Nat) : Int) = (up : Int) + 1 from by omega]
            clear hd h1 h2 hor hg hsz hv hu0 hbd
            go_wp2_with (go_at_call 94; refine (HC.out _).mono ?_; rintro e w2 ⟨rfl, hb2⟩)
            go_roundw
            case rel => exact ⟨j + 1, up + 1, hh, q + v, by omega, by omega, by omega, by go_num, by go_num, by go_num, rfl, by omega, by omega, HI2, HR2, below_then hbr hb2⟩
            case measure => simp [intOf]; omega
    · have HZ : Hid (rankV s.data.toList = q) := by
        have := HR.out; rw [drop_end s j hlt] at this
        rw [HV.out]; simp only [rankGo] at this; show _ = _; omega
      go_wp2
      go_ret
      exact ⟨by rw [HZ.out]; rfl, hbr⟩
theorem rankS (s : ByteArray) (w : World) (hs : s.size ≤ 1048576) : Calls Try.prog 64 #[.string s] w fun e w' => e = .returned (.int .i64 (rankV s.data.toList)) ∧ Below w.heap.size w w' := by
  cases hd : dyck s.data.toList with
  | true => exact rankS_yes s w hs hd
  | false =>
    have HV := Lib.hid (rankV_no hd)
    go_enter Try.func64, Try.ntmps64
    go_wp2_with (go_at_call 25; refine (isDyckS s _ hs).mono ?_; rintro e w' ⟨rfl, rfl⟩)
    go_ret
    exact ⟨by rw [HV.out]; rfl, Below.refl _ _⟩
set_option maxRecDepth 100000 in
theorem law_FnExactRankPath (s : ByteArray) (w : World) (hs : s.size ≤ maxLen) : Calls Try.prog 17 #[.string s] w fun e w' => e = .returned (.bool true) ∧ Below w.heap.size w w' := by
  unfold maxLen at hs
  by_cases hb : s.size ≤ 1048576
  · go_enter Try.func17, Try.ntmps17
    go_wp2_with fail
    refine (rankS s _ hb).mono ?_
    rintro e w1 ⟨rfl, h1⟩
    go_wp2_with fail
    refine (rankI s _ hb).mono ?_
    rintro e w2 ⟨rfl, h2⟩
    go_wp2_with fail
    go_ret
    exact ⟨rfl, below_then h1 h2⟩
  · go_enter Try.func17, Try.ntmps17
    go_wp2
    go_ret
    exact ⟨rfl, Below.refl _ _⟩
end Go.Proofs.Ytfpdkjoimmociaa
