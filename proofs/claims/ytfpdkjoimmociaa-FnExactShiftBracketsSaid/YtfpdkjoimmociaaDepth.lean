/-
  NestedPairs and DepthOf of both packages, and their laws, walked.
-/
import Derived.Test.YtfpdkjoimmociaaBrack2
import Derived.Test.YtfpdkjoimmociaaArea
namespace Go.Proofs.Ytfpdkjoimmociaa
open Go.RowKit
theorem pob_dyck {l : List UInt8} {p : ByteArray} (h : pobV l = some p) : dyck p.data.toList = true := by
  unfold pobV pobO at h
  split at h
  · split at h
    · cases h; assumption
    · cases h
  · cases h
theorem pob_size {l : List UInt8} {p : ByteArray} (h : pobV l = some p) : p.size ≤ 16 := by have := dyck_len (pob_dyck h); simpa using this
def nestV (o : Option ByteArray) : Int := match o with | some p => areaV p.data.toList | none => -1
def maxL (l : List Int) : Int := l.foldl max 0
theorem maxL_snoc (l : List Int) (x : Int) : maxL (l ++ [x]) = max (maxL l) x := by simp [maxL]
def depthV (o : Option ByteArray) : Int := match o with | some p => maxL (htsV p.data.toList) | none => -1
set_option maxRecDepth 100000 in
theorem nestedI (s : ByteArray) (w : World) (hs : s.size ≤ 1048576) : Calls Try.prog 79 #[.string s] w fun e w' => e = .returned (.int .i64 (nestV (pobV s.data.toList))) ∧ Below w.heap.size w w' := by
  have HX := Lib.hid (fun w => pobI s w hs)
  cases ho : pobV s.data.toList with
  | none =>
    rw [ho] at HX
    unfold strB at HX
    go_enter Try.func79, Try.ntmps79
    go_wp2_with fail
    refine (HX.out _).mono ?_
    rintro e w1 ⟨rfl, hb1⟩
    go_wp2_with fail
    go_ret
    exact ⟨rfl, hb1⟩
  | some p =>
    have hp := pob_size ho
    rw [ho] at HX
    have HX : Hid (∀ w, Calls Try.prog 71 #[.string s] w fun e w' => e = .returned (.tuple #[.string p, .bool true]) ∧ Below w.heap.size w w') := HX
    clear ho
    go_enter Try.func79, Try.ntmps79
    go_wp2_with fail
    refine (HX.out _).mono ?_
    rintro e w1 ⟨rfl, hb1⟩
    go_wp2_with fail
    refine (areaI p _ (by omega)).mono ?_
    rintro e w2 ⟨rfl, hb2⟩
    go_wp2_with fail
    go_ret
    exact ⟨rfl, below_then hb1 hb2⟩
set_option maxRecDepth 100000 in
theorem nestedS (s : ByteArray) (w : World) (hs : s.size ≤ 1048576) : Calls Try.prog 78 #[.string s] w fun e w' => e = .returned (.int .i64 (nestV (pobV s.data.toList))) ∧ Below w.heap.size w w' := by
  have HX := Lib.hid (fun w => pobS s w hs)
  cases ho : pobV s.data.toList with
  | none =>
    rw [ho] at HX
    unfold strB at HX
    go_enter Try.func78, Try.ntmps78
    go_wp2_with fail
    refine (HX.out _).mono ?_
    rintro e w1 ⟨rfl, hb1⟩
    go_wp2_with fail
    go_ret
    exact ⟨rfl, hb1⟩
  | some p =>
    have hp := pob_size ho
    rw [ho] at HX
    have HX : Hid (∀ w, Calls Try.prog 70 #[.string s] w fun e w' => e = .returned (.tuple #[.string p, .bool true]) ∧ Below w.heap.size w w') := HX
    clear ho
    go_enter Try.func78, Try.ntmps78
    go_wp2_with fail
    refine (HX.out _).mono ?_
    rintro e w1 ⟨rfl, hb1⟩
    go_wp2_with fail
    refine (areaS p _ (by omega)).mono ?_
    rintro e w2 ⟨rfl, hb2⟩
    go_wp2_with fail
    go_ret
    exact ⟨rfl, below_then hb1 hb2⟩
set_option maxRecDepth 100000 in
theorem law_FnExactNestedPairs (s : ByteArray) (w : World) (hs : s.size ≤ maxLen) : Calls Try.prog 24 #[.string s] w fun e w' => e = .returned (.bool true) ∧ Below w.heap.size w w' := by
  unfold maxLen at hs
  by_cases hb : s.size ≤ 1048576
  · go_enter Try.func24, Try.ntmps24
    go_wp2_with fail
    refine (nestedS s _ hb).mono ?_
    rintro e w1 ⟨rfl, h1⟩
    go_wp2_with fail
    refine (nestedI s _ hb).mono ?_
    rintro e w2 ⟨rfl, h2⟩
    go_wp2_with fail
    go_ret
    exact ⟨rfl, below_then h1 h2⟩
  · go_enter Try.func24, Try.ntmps24
    go_wp2
    go_ret
    exact ⟨rfl, Below.refl _ _⟩

set_option maxRecDepth 100000 in
set_option maxHeartbeats 400000 in
theorem depthS (s : ByteArray) (w : World) (hs : s.size ≤ 1048576) : Calls Try.prog 72 #[.string s] w fun e w' => e = .returned (.int .i64 (depthV (pobV s.data.toList))) ∧ Below w.heap.size w w' := by
  have HX := Lib.hid (fun w => pobS s w hs)
  cases ho : pobV s.data.toList with
  | none =>
    rw [ho] at HX
    unfold strB at HX
    go_enter Try.func72, Try.ntmps72
    go_wp2_with fail
    refine (HX.out _).mono ?_
    rintro e w1 ⟨rfl, hb1⟩
    go_wp2_with fail
    go_ret
    exact ⟨rfl, hb1⟩
  | some p =>
    have hp := pob_size ho
    rw [ho] at HX
    have HX : Hid (∀ w, Calls Try.prog 70 #[.string s] w fun e w' => e = .returned (.tuple #[.string p, .bool true]) ∧ Below w.heap.size w w') := HX
    clear ho
    have HS := Lib.hid (fun w => heightsOfS p w (by omega))
    have hn := htsV_len p (by omega)
    have HV : Hid (depthV (some p) = maxL (htsV p.data.toList)) := rfl
    obtain ⟨l, hl⟩ : ∃ l, l = htsV p.data.toList := ⟨_, rfl⟩
    rw [← hl] at HS hn HV
    clear hl
    go_enter Try.func72, Try.ntmps72
    go_wp2_with fail
    refine (HX.out _).mono ?_
    rintro e w1 ⟨rfl, hb1⟩
    go_wp2_with fail
    refine (HS.out _).mono ?_
    rintro e w2 ⟨A, c, rfl, hB⟩
    have HR := Lib.hid hB.rd
    have HL := Lib.hid (below_then hb1 hB.bel)
    clear hB hb1
    obtain ⟨n, hnn⟩ : ∃ n, n = l.length := ⟨_, rfl⟩
    rw [← hnn] at hn ⊢
    have HN := Lib.hid hnn
    clear hnn
    go_wp2_with fail
    go_loop [6, 7] (fun m i => ∃ (k : Nat) (z : Int), k ≤ n ∧ i = .int .i64 k ∧ m = .int .i64 z ∧ Hid (z = maxL (l.take k))) (fun _ i => n - (intOf i).toNat)
    case atStart => exact ⟨0, 0, by omega, rfl, rfl, rfl⟩
    case round =>
      obtain ⟨k, z, hk, rfl, rfl, HC⟩ := hrel
      by_cases hlt : k < n
      · obtain ⟨b1, o1, rfl, _, hc1⟩ := HR.out k (by rw [← HN.out]; exact hlt)
        have HC2 : Hid (max z (l.getD k 0) = maxL (l.take (k + 1))) := by
          show _ = _
          have hk2 : k < l.length := by rw [← HN.out]; exact hlt
          rw [List.take_succ_eq_append_getElem hk2, maxL_snoc, ← HC.out]; simp [List.getD, hk2]
        obtain ⟨x, hx⟩ : ∃ x, x = l.getD k 0 := ⟨_, rfl⟩
        rw [← hx] at hc1 HC2
        clear hx
        by_cases hm : z < x
        · have HM : Hid (x = maxL (l.take (k + 1))) := by rw [← HC2.out]; show _ = _; omega
          go_wp2
          go_round
          case rel => exact ⟨k + 1, x, by omega, by go_num, rfl, HM⟩
          case measure => simp [intOf]; omega
        · have HM : Hid (z = maxL (l.take (k + 1))) := by rw [← HC2.out]; show _ = _; omega
          go_wp2
          go_round
          case rel => exact ⟨k + 1, z, by omega, by go_num, rfl, HM⟩
          case measure => simp [intOf]; omega
      · have HZ : Hid (depthV (some p) = z) := by
          have h1 := HC.out
          rw [List.take_of_length_le (by rw [← HN.out]; omega)] at h1
          rw [HV.out]; exact h1.symm
        go_wp2
        go_ret
        exact ⟨by rw [HZ.out]; rfl, HL.out⟩
set_option maxRecDepth 100000 in
set_option maxHeartbeats 400000 in
theorem depthI (s : ByteArray) (w : World) (hs : s.size ≤ 1048576) : Calls Try.prog 73 #[.string s] w fun e w' => e = .returned (.int .i64 (depthV (pobV s.data.toList))) ∧ Below w.heap.size w w' := by
  have HX := Lib.hid (fun w => pobI s w hs)
  cases ho : pobV s.data.toList with
  | none =>
    rw [ho] at HX
    unfold strB at HX
    go_enter Try.func73, Try.ntmps73
    go_wp2_with fail
    refine (HX.out _).mono ?_
    rintro e w1 ⟨rfl, hb1⟩
    go_wp2_with fail
    go_ret
    exact ⟨rfl, hb1⟩
  | some p =>
    have hp := pob_size ho
    rw [ho] at HX
    have HX : Hid (∀ w, Calls Try.prog 71 #[.string s] w fun e w' => e = .returned (.tuple #[.string p, .bool true]) ∧ Below w.heap.size w w') := HX
    clear ho
    have HS := Lib.hid (fun w => heightsOfI p w (by omega))
    have hn := htsV_len p (by omega)
    have HV : Hid (depthV (some p) = maxL (htsV p.data.toList)) := rfl
    obtain ⟨l, hl⟩ : ∃ l, l = htsV p.data.toList := ⟨_, rfl⟩
    rw [← hl] at HS hn HV
    clear hl
    go_enter Try.func73, Try.ntmps73
    go_wp2_with fail
    refine (HX.out _).mono ?_
    rintro e w1 ⟨rfl, hb1⟩
    go_wp2_with fail
    refine (HS.out _).mono ?_
    rintro e w2 ⟨A, c, rfl, hB⟩
    have HR := Lib.hid hB.rd
    have HL := Lib.hid (below_then hb1 hB.bel)
    clear hB hb1
    obtain ⟨n, hnn⟩ : ∃ n, n = l.length := ⟨_, rfl⟩
    rw [← hnn] at hn ⊢
    have HN := Lib.hid hnn
    clear hnn
    go_wp2_with fail
    go_loop [5, 18, 7] (fun m i _ => ∃ (k : Nat) (z : Int), k ≤ n ∧ i = .int .i64 k ∧ m = .int .i64 z ∧ Hid (z = maxL (l.take k))) (fun _ i _ => n - (intOf i).toNat)
    case atStart => exact ⟨0, 0, by omega, rfl, rfl, rfl⟩
    case round =>
      obtain ⟨k, z, hk, rfl, rfl, HC⟩ := hrel
      by_cases hlt : k < n
      · obtain ⟨b1, o1, rfl, _, hc1⟩ := HR.out k (by rw [← HN.out]; exact hlt)
        have HC2 : Hid (max z (l.getD k 0) = maxL (l.take (k + 1))) := by
          show _ = _
          have hk2 : k < l.length := by rw [← HN.out]; exact hlt
          rw [List.take_succ_eq_append_getElem hk2, maxL_snoc, ← HC.out]; simp [List.getD, hk2]
        obtain ⟨x, hx⟩ : ∃ x, x = l.getD k 0 := ⟨_, rfl⟩
        rw [← hx] at hc1 HC2
        clear hx
        by_cases hm : z < x
        · have HM : Hid (x = maxL (l.take (k + 1))) := by rw [← HC2.out]; show _ = _; omega
          go_wp2
          go_round
          case rel => exact ⟨k + 1, x, by omega, by go_num, rfl, HM⟩
          case measure => simp [intOf]; omega
        · have HM : Hid (z = maxL (l.take (k + 1))) := by rw [← HC2.out]; show _ = _; omega
          go_wp2
          go_round
          case rel => exact ⟨k + 1, z, by omega, by go_num, rfl, HM⟩
          case measure => simp [intOf]; omega
      · have HZ : Hid (depthV (some p) = z) := by
          have h1 := HC.out
          rw [List.take_of_length_le (by rw [← HN.out]; omega)] at h1
          rw [HV.out]; exact h1.symm
        go_wp2
        go_ret
        exact ⟨by rw [HZ.out]; rfl, HL.out⟩
set_option maxRecDepth 100000 in
theorem law_FnExactDepthOf (s : ByteArray) (w : World) (hs : s.size ≤ maxLen) : Calls Try.prog 21 #[.string s] w fun e w' => e = .returned (.bool true) ∧ Below w.heap.size w w' := by
  unfold maxLen at hs
  by_cases hb : s.size ≤ 1048576
  · go_enter Try.func21, Try.ntmps21
    go_wp2_with fail
    refine (depthS s _ hb).mono ?_
    rintro e w1 ⟨rfl, h1⟩
    go_wp2_with fail
    refine (depthI s _ hb).mono ?_
    rintro e w2 ⟨rfl, h2⟩
    go_wp2_with fail
    go_ret
    exact ⟨rfl, below_then h1 h2⟩
  · go_enter Try.func21, Try.ntmps21
    go_wp2
    go_ret
    exact ⟨rfl, Below.refl _ _⟩
end Go.Proofs.Ytfpdkjoimmociaa
