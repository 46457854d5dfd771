/-
  ChildrenOf and LeavesOf of both packages and their laws, walked.
-/
import Derived.Test.YtndehfkamfmmeaaPlI
import Derived.Test.YtndehfkamfmmeaaHts
namespace Go.Proofs.Ytndehfkamfmmeaa
open Go.RowKit
/-- The places, from i on, that hold v. -/
def chGo (v : Int) : Nat → List Int → List Int
  | _, [] => []
  | i, x :: r => if x = v then (i : Int) :: chGo v (i + 1) r else chGo v (i + 1) r
def chV (p : List Int) (v : Int) : List Int := if plane p = true ∧ 0 ≤ v then chGo v 1 (p.drop 1) else []
theorem len_chGo (v : Int) : ∀ (r : List Int) (i : Nat), (chGo v i r).length ≤ r.length := by
  intro r
  induction r with
  | nil => intro i; exact Nat.le_refl _
  | cons x r ih =>
    intro i
    have := ih (i + 1)
    simp only [chGo]
    split <;> simp <;> omega
theorem plane_len {p : List Int} (h : plane p = true) : 1 ≤ p.length ∧ p.length ≤ 9 := by
  by_cases hn : 1 ≤ p.length ∧ p.length ≤ 9
  · exact hn
  · rw [plane_len_no hn] at h; cases h
theorem plane_first {p : List Int} (h : plane p = true) : p.getD 0 0 = -1 := by
  by_cases hx : p.getD 0 0 = -1
  · exact hx
  · rw [plane_head hx] at h; cases h
theorem chV_len (p : List Int) (v : Int) : (chV p v).length ≤ 9 := by
  unfold chV
  split
  · rename_i h
    have := len_chGo v (p.drop 1) 1
    have := plane_len h.1
    simp at *; omega
  · simp
theorem chV_full {p : List Int} {v : Int} (h : plane p = true) (hv : 0 ≤ v) : chV p v = chGo v 0 p := by
  have h1 := plane_len h
  have h2 := plane_first h
  unfold chV
  rw [if_pos ⟨h, hv⟩]
  have e := drop_one p 0 h1.1
  rw [h2, List.drop_zero] at e
  rw [e]
  simp only [chGo]
  rw [if_neg (by omega)]; rfl
theorem chV_yes {p : List Int} {v : Int} (h : plane p = true) (hv : 0 ≤ v) : chV p v = chGo v 1 (p.drop 1) := if_pos ⟨h, hv⟩
theorem chV_no {p : List Int} {v : Int} (h : plane p = false ∨ v < 0) : chV p v = [] := by
  unfold chV
  rw [if_neg]
  rintro ⟨h1, h2⟩
  rcases h with h | h
  · rw [h] at h1; cases h1
  · omega

set_option maxRecDepth 100000 in
set_option maxHeartbeats 1000000 in
theorem childrenI (A : Option Addr) (n c : Nat) (p : List Int) (v : Int) (w : World) (hl : p.length = n) (ha : Rd .i64 w A p) (hn : n ≤ 1048576) : Calls Try.prog 19 #[.slice A n c, .int .i64 v] w (RetI (chV p v) w) := by
  have HPl := Lib.hid (fun w' (hb : Below w.heap.size w w') => isPlaneI A n c p w' hl (ha.keep hb) hn)
  have hlit := lit_nil w
  cases hp : plane p with
  | false =>
    rw [hp] at HPl
    rw [chV_no (.inl hp)]
    clear ha
    go_enter Try.func19, Try.ntmps19
    go_wp2_with (go_at_call 16; refine (HPl.out _ hlit.bel).mono ?_; rintro e w' ⟨rfl, rfl⟩)
    go_ret
    exact RetI.of hlit
  | true =>
    rw [hp] at HPl
    by_cases hv : v < 0
    · rw [chV_no (.inr hv)]
      have e1 : decide (v < 0) = true := by simpa using hv
      clear ha
      go_enter Try.func19, Try.ntmps19
      go_wp2_with (go_at_call 16; refine (HPl.out _ hlit.bel).mono ?_; rintro e w' ⟨rfl, rfl⟩)
      go_ret
      exact RetI.of hlit
    · have e1 : decide (v < 0) = false := by simpa using hv
      have HV := Lib.hid (chV_full hp (show 0 ≤ v by omega))
      have h9 := plane_len hp
      rw [hl] at h9
      obtain ⟨n1, n9⟩ := h9
      obtain ⟨b, o, rfl⟩ := ha.form (by omega)
      have HA := Lib.hid ha
      have HL := Lib.hid hl
      clear ha hl hp hv
      go_enter Try.func19, Try.ntmps19
      go_wp2_with (go_at_call 16; refine (HPl.out _ hlit.bel).mono ?_; rintro e w' ⟨rfl, rfl⟩)
      go_loopw [5, 19] (fun ov i wr => ∃ (k : Nat) (pre : List Int), k ≤ n ∧ i = .int .i64 (k : Int) ∧ pre.length ≤ k ∧ Hid (pre ++ chGo v k (p.drop k) = chV p v) ∧ Buf w wr 3 ov (pre.map (Value.int .i64))) (fun _ i _ => n - (intOf i).toNat)
      case atStart => exact ⟨0, [], by omega, rfl, by simp, (by rw [HV.out]; rfl), hlit⟩
      case round =>
        obtain ⟨k, pre, hk, rfl, hpl, HE, hBr⟩ := hrel
        by_cases hlt : k < n
        · have hck := (HA.out.keep hBr.bel).at_ k (by rw [HL.out]; exact hlt)
          have hdk := drop_one p k (by rw [HL.out]; exact hlt)
          obtain ⟨x, hxk⟩ : ∃ x, x = p.getD k 0 := ⟨_, rfl⟩
          rw [← hxk] at hck hdk
          have hxl : (pre.map (Value.int .i64)).length ≤ 17 := by simp; omega
          by_cases hx : x = v
          · have ex : (x == v) = true := by simpa using hx
            have HE2 : Hid ((pre ++ [(k : Int)]) ++ chGo v (k + 1) (p.drop (k + 1)) = chV p v) := by
              show _ = _; rw [← HE.out, hdk]; simp only [chGo, if_pos hx]; simp
            clear hx hdk hxk HE
            go_wp2_with (at_builtin; refine buf_append1 elInt rfl _ _ rfl hBr rfl rfl rfl (by omega) ?_; intro v2 w2 hB2 _ _)
            go_roundw
            case rel => exact ⟨k + 1, pre ++ [(k : Int)], by omega, by go_num, by simp; omega, HE2, by rw [List.map_append]; exact hB2⟩
            case measure => simp [intOf]; omega
          · have ex : (x == v) = false := by simpa using hx
            have HE2 : Hid (pre ++ chGo v (k + 1) (p.drop (k + 1)) = chV p v) := by
              show _ = _; rw [← HE.out, hdk]; simp only [chGo, if_neg hx]
            clear hx hdk hxk HE
            go_wp2
            go_roundw
            case rel => exact ⟨k + 1, pre, by omega, by go_num, by omega, HE2, hBr⟩
            case measure => simp [intOf]; omega
        · obtain rfl : k = n := by omega
          have hF : pre = chV p v := by rw [← HE.out, List.drop_of_length_le (by rw [HL.out]; exact Nat.le_refl _)]; simp [chGo]
          rw [hF] at hBr
          clear hF HE
          go_wp2
          go_ret
          exact RetI.of hBr
set_option maxRecDepth 100000 in
set_option maxHeartbeats 1000000 in
theorem childrenS (A : Option Addr) (n c : Nat) (p : List Int) (v : Int) (w : World) (hl : p.length = n) (ha : Rd .i64 w A p) (hn : n ≤ 1048576) : Calls Try.prog 18 #[.slice A n c, .int .i64 v] w (RetI (chV p v) w) := by
  have HPl := Lib.hid (fun w' (hb : Below w.heap.size w w') => isPlaneS A n c p w' hl (ha.keep hb) hn)
  have hlit := lit_nil w
  cases hp : plane p with
  | false =>
    rw [hp] at HPl
    rw [chV_no (.inl hp)]
    clear ha
    go_enter Try.func18, Try.ntmps18
    go_wp2_with fail
    refine wp_loop_rounds 1 ?_
    rw [rounds_succ]
    go_wp2_with (go_at_call 14; refine (HPl.out _ hlit.bel).mono ?_; rintro e w' ⟨rfl, rfl⟩)
    all_goals
      go_ret
      exact RetI.of hlit
  | true =>
    rw [hp] at HPl
    by_cases hv : v < 0
    · rw [chV_no (.inr hv)]
      have e1 : decide (0 ≤ v) = false := by simpa using hv
      clear ha
      go_enter Try.func18, Try.ntmps18
      go_wp2_with fail
      refine wp_loop_rounds 1 ?_
      rw [rounds_succ]
      go_wp2_with (go_at_call 14; refine (HPl.out _ hlit.bel).mono ?_; rintro e w' ⟨rfl, rfl⟩)
      all_goals
        go_ret
        exact RetI.of hlit
    · have hv0 : 0 ≤ v := by omega
      have e1 : decide (0 ≤ v) = true := by simpa using hv0
      have HV := Lib.hid (chV_yes hp hv0)
      have h9 := plane_len hp
      rw [hl] at h9
      obtain ⟨n1, n9⟩ := h9
      obtain ⟨b, o, rfl⟩ := ha.form (by omega)
      have HA := Lib.hid ha
      have HL := Lib.hid hl
      clear ha hl hp hv
      go_enter Try.func18, Try.ntmps18
      go_wp2_with fail
      go_loopw [5, 6] (fun ov i wr => ∃ (k : Nat) (pre : List Int), 1 ≤ k ∧ k ≤ n ∧ i = .int .i64 (k : Int) ∧ pre.length ≤ k ∧ Hid (pre ++ chGo v k (p.drop k) = chV p v) ∧ Buf w wr 3 ov (pre.map (Value.int .i64))) (fun _ i _ => n - (intOf i).toNat)
      case atStart => exact ⟨1, [], by omega, by omega, rfl, by simp, (by rw [HV.out]; rfl), hlit⟩
      case round =>
        obtain ⟨k, pre, hk1, hk, rfl, hpl, HE, hBr⟩ := hrel
        have HPr := Lib.hid (HPl.out _ hBr.bel)
        by_cases hlt : k < n
        · have hck := (HA.out.keep hBr.bel).at_ k (by rw [HL.out]; exact hlt)
          have hdk := drop_one p k (by rw [HL.out]; exact hlt)
          have hlt' : (k : Int) < (n : Int) := by omega
          obtain ⟨x, hxk⟩ : ∃ x, x = p.getD k 0 := ⟨_, rfl⟩
          rw [← hxk] at hck hdk
          have hxl : (pre.map (Value.int .i64)).length ≤ 17 := by simp; omega
          by_cases hx : x = v
          · have ex : (x == v) = true := by simpa using hx
            have HE2 : Hid ((pre ++ [(k : Int)]) ++ chGo v (k + 1) (p.drop (k + 1)) = chV p v) := by
              show _ = _; rw [← HE.out, hdk]; simp only [chGo, if_pos hx]; simp
            clear hx hdk hxk HE
            go_wp2_with (first | (go_at_call 14; refine (HPr.out).mono ?_; rintro e w' ⟨rfl, rfl⟩) | (at_builtin; refine buf_append1 elInt rfl _ _ rfl hBr rfl rfl rfl (by omega) ?_; intro v2 w2 hB2 _ _))
            go_roundw
            case rel => exact ⟨k + 1, pre ++ [(k : Int)], by omega, by omega, by go_num, by simp; omega, HE2, by rw [List.map_append]; exact hB2⟩
            case measure => simp [intOf]; omega
          · have ex : (x == v) = false := by simpa using hx
            have HE2 : Hid (pre ++ chGo v (k + 1) (p.drop (k + 1)) = chV p v) := by
              show _ = _; rw [← HE.out, hdk]; simp only [chGo, if_neg hx]
            clear hx hdk hxk HE
            go_wp2_with (go_at_call 14; refine (HPr.out).mono ?_; rintro e w' ⟨rfl, rfl⟩)
            go_roundw
            case rel => exact ⟨k + 1, pre, by omega, by omega, by go_num, by omega, HE2, hBr⟩
            case measure => simp [intOf]; omega
        · obtain rfl : k = n := by omega
          have hF : pre = chV p v := by rw [← HE.out, List.drop_of_length_le (by rw [HL.out]; exact Nat.le_refl _)]; simp [chGo]
          rw [hF] at hBr
          clear hF HE
          go_wp2_with (go_at_call 14; refine (HPr.out).mono ?_; rintro e w' ⟨rfl, rfl⟩)
          go_ret
          exact RetI.of hBr
/-- How many of the first k vertices have no child. -/
def leafC (p : List Int) (k : Nat) : Nat := ((List.range k).filter fun v : Nat => plane p && (chV p (v : Int)).isEmpty).length
theorem leafC_succ (p : List Int) (k : Nat) : leafC p (k + 1) = leafC p k + if (plane p && (chV p (k : Int)).isEmpty) = true then 1 else 0 := by
  unfold leafC
  rw [List.range_succ, List.filter_append, List.length_append]
  congr 1
  by_cases h : (plane p && (chV p (k : Int)).isEmpty) = true
  · rw [if_pos h, List.filter_cons, if_pos h]; rfl
  · rw [if_neg h, List.filter_cons, if_neg h]; rfl
theorem leafC_le (p : List Int) (k : Nat) : leafC p k ≤ k := by
  unfold leafC
  have := List.length_filter_le (fun v : Nat => plane p && (chV p (v : Int)).isEmpty) (List.range k)
  simpa using this
theorem leafC_no {p : List Int} (h : plane p = false) (k : Nat) : leafC p k = 0 := by unfold leafC; simp [h]
def leafV (p : List Int) : Int := (leafC p p.length : Int)

set_option maxRecDepth 100000 in
set_option maxHeartbeats 1000000 in
theorem leavesI (A : Option Addr) (n c : Nat) (p : List Int) (w : World) (hl : p.length = n) (ha : Rd .i64 w A p) (hn : n ≤ 1048576) : Calls Try.prog 23 #[.slice A n c] w fun e w' => e = .returned (.int .i64 (leafV p)) ∧ Below w.heap.size w w' := by
  have HPl := Lib.hid (fun w' (hb : Below w.heap.size w w') => isPlaneI A n c p w' hl (ha.keep hb) hn)
  have HCh := Lib.hid (fun v w' (hb : Below w.heap.size w w') => childrenI A n c p v w' hl (ha.keep hb) hn)
  have HL := Lib.hid hl
  cases hp : plane p with
  | false =>
    rw [hp] at HPl
    have HZ : Hid (leafV p = 0) := by show _ = _; unfold leafV; rw [leafC_no hp]; rfl
    clear ha hl
    go_enter Try.func23, Try.ntmps23
    go_wp2_with fail
    go_loopw [3, 7] (fun t i wr => ∃ k : Nat, k ≤ n ∧ i = .int .i64 (k : Int) ∧ t = .int .i64 0 ∧ Below w.heap.size w wr) (fun _ i _ => n - (intOf i).toNat)
    case atStart => exact ⟨0, by omega, rfl, rfl, Below.refl _ _⟩
    case round =>
      obtain ⟨k, hk, rfl, rfl, hb⟩ := hrel
      by_cases hlt : k < n
      · go_wp2_with (go_at_call 16; refine (HPl.out _ hb).mono ?_; rintro e w' ⟨rfl, rfl⟩)
        go_roundw
        case rel => exact ⟨k + 1, by omega, by go_num, rfl, hb⟩
        case measure => simp [intOf]; omega
      · obtain rfl : k = n := by omega
        go_wp2
        go_ret
        exact ⟨by rw [HZ.out]; rfl, hb⟩
  | true =>
    rw [hp] at HPl
    have HP := Lib.hid hp
    clear ha hl hp
    go_enter Try.func23, Try.ntmps23
    go_wp2_with fail
    go_loopw [3, 7] (fun t i wr => ∃ k : Nat, k ≤ n ∧ i = .int .i64 (k : Int) ∧ t = .int .i64 ((leafC p k : Nat) : Int) ∧ Below w.heap.size w wr) (fun _ i _ => n - (intOf i).toNat)
    case atStart => exact ⟨0, by omega, rfl, rfl, Below.refl _ _⟩
    case round =>
      obtain ⟨k, hk, rfl, rfl, hb⟩ := hrel
      by_cases hlt : k < n
      · have HS := Lib.hid (leafC_succ p k)
        have hle := leafC_le p k
        obtain ⟨m, hm⟩ : ∃ m, m = leafC p k := ⟨_, rfl⟩
        rw [← hm] at HS hle ⊢
        have HC := Lib.hid (HCh.out (k : Int) _ hb)
        obtain ⟨l, hl⟩ : ∃ l, l = chV p (k : Int) := ⟨_, rfl⟩
        rw [← hl, HP.out] at HS
        rw [← hl] at HC
        clear hm hl
        cases l with
        | nil =>
          have HS2 : Hid (leafC p (k + 1) = m + 1) := HS.out
          have ez : ((([] : List Int).length : Int) == 0) = true := rfl
          go_wp2_with (first | (go_at_call 16; refine (HPl.out _ hb).mono ?_; rintro e w' ⟨rfl, rfl⟩) | (go_at_call 19; refine (HC.out).mono ?_; rintro e w' ⟨A2, c2, rfl, hB2⟩))
          have HB := Lib.hid (below_then hb hB2.bel)
          clear hb hB2
          go_roundw
          case rel => exact ⟨k + 1, by omega, by go_num, by rw [HS2.out]; go_num, HB.out⟩
          case measure => simp [intOf]; omega
        | cons x r =>
          have HS2 : Hid (leafC p (k + 1) = m) := HS.out
          have ez : ((((x :: r).length : Nat) : Int) == 0) = false := by rw [beq_eq_false_iff_ne, List.length_cons]; omega
          obtain ⟨l, hl⟩ : ∃ l, l = x :: r := ⟨_, rfl⟩
          rw [← hl] at HC ez
          clear hl
          go_wp2_with (first | (go_at_call 16; refine (HPl.out _ hb).mono ?_; rintro e w' ⟨rfl, rfl⟩) | (go_at_call 19; refine (HC.out).mono ?_; rintro e w' ⟨A2, c2, rfl, hB2⟩))
          have HB := Lib.hid (below_then hb hB2.bel)
          clear hb hB2
          go_roundw
          case rel => exact ⟨k + 1, by omega, by go_num, by rw [HS2.out], HB.out⟩
          case measure => simp [intOf]; omega
      · obtain rfl : k = n := by omega
        have HZ : Hid (leafV p = (leafC p k : Int)) := by show _ = _; unfold leafV; rw [HL.out]
        go_wp2
        go_ret
        exact ⟨by rw [HZ.out]; rfl, hb⟩
set_option maxRecDepth 100000 in
set_option maxHeartbeats 1000000 in
theorem leavesS (A : Option Addr) (n c : Nat) (p : List Int) (w : World) (hl : p.length = n) (ha : Rd .i64 w A p) (hn : n ≤ 1048576) : Calls Try.prog 22 #[.slice A n c] w fun e w' => e = .returned (.int .i64 (leafV p)) ∧ Below w.heap.size w w' := by
  have HPl := Lib.hid (fun w' (hb : Below w.heap.size w w') => isPlaneS A n c p w' hl (ha.keep hb) hn)
  have HCh := Lib.hid (fun v w' (hb : Below w.heap.size w w') => childrenS A n c p v w' hl (ha.keep hb) hn)
  have HL := Lib.hid hl
  cases hp : plane p with
  | false =>
    rw [hp] at HPl
    have HZ : Hid (leafV p = 0) := by show _ = _; unfold leafV; rw [leafC_no hp]; rfl
    clear ha hl
    go_enter Try.func22, Try.ntmps22
    go_wp2_with fail
    refine wp_loop_rounds 1 ?_
    rw [rounds_succ]
    go_wp2_with (go_at_call 14; refine (HPl.out _ (Below.refl _ _)).mono ?_; rintro e w' ⟨rfl, rfl⟩)
    all_goals
      go_ret
      exact ⟨by rw [HZ.out]; rfl, Below.refl _ _⟩
  | true =>
    rw [hp] at HPl
    have HP := Lib.hid hp
    clear ha hl hp
    go_enter Try.func22, Try.ntmps22
    go_wp2_with fail
    go_loopw [3, 4] (fun t i wr => ∃ k : Nat, k ≤ n ∧ i = .int .i64 (k : Int) ∧ t = .int .i64 ((leafC p k : Nat) : Int) ∧ Below w.heap.size w wr) (fun _ i _ => n - (intOf i).toNat)
    case atStart => exact ⟨0, by omega, rfl, rfl, Below.refl _ _⟩
    case round =>
      obtain ⟨k, hk, rfl, rfl, hb⟩ := hrel
      by_cases hlt : k < n
      · have HS := Lib.hid (leafC_succ p k)
        have hle := leafC_le p k
        have hlt' : (k : Int) < (n : Int) := by omega
        obtain ⟨m, hm⟩ : ∃ m, m = leafC p k := ⟨_, rfl⟩
        rw [← hm] at HS hle ⊢
        have HC := Lib.hid (HCh.out (k : Int) _ hb)
        obtain ⟨l, hl⟩ : ∃ l, l = chV p (k : Int) := ⟨_, rfl⟩
        rw [← hl, HP.out] at HS
        rw [← hl] at HC
        clear hm hl
        cases l with
        | nil =>
          have HS2 : Hid (leafC p (k + 1) = m + 1) := HS.out
          have ez : ((([] : List Int).length : Int) == 0) = true := rfl
          go_wp2_with (first | (go_at_call 14; refine (HPl.out _ hb).mono ?_; rintro e w' ⟨rfl, rfl⟩) | (go_at_call 18; refine (HC.out).mono ?_; rintro e w' ⟨A2, c2, rfl, hB2⟩))
          have HB := Lib.hid (below_then hb hB2.bel)
          clear hb hB2
          go_roundw
          case rel => exact ⟨k + 1, by omega, by go_num, by rw [HS2.out]; go_num, HB.out⟩
          case measure => simp [intOf]; omega
        | cons x r =>
          have HS2 : Hid (leafC p (k + 1) = m) := HS.out
          have ez : ((((x :: r).length : Nat) : Int) == 0) = false := by rw [beq_eq_false_iff_ne, List.length_cons]; omega
          obtain ⟨l, hl⟩ : ∃ l, l = x :: r := ⟨_, rfl⟩
          rw [← hl] at HC ez
          clear hl
          go_wp2_with (first | (go_at_call 14; refine (HPl.out _ hb).mono ?_; rintro e w' ⟨rfl, rfl⟩) | (go_at_call 18; refine (HC.out).mono ?_; rintro e w' ⟨A2, c2, rfl, hB2⟩))
          have HB := Lib.hid (below_then hb hB2.bel)
          clear hb hB2
          go_roundw
          case rel => exact ⟨k + 1, by omega, by go_num, by rw [HS2.out], HB.out⟩
          case measure => simp [intOf]; omega
      · obtain rfl : k = n := by omega
        have HZ : Hid (leafV p = (leafC p k : Int)) := by show _ = _; unfold leafV; rw [HL.out]
        go_wp2_with (go_at_call 14; refine (HPl.out _ hb).mono ?_; rintro e w' ⟨rfl, rfl⟩)
        go_ret
        exact ⟨by rw [HZ.out]; rfl, hb⟩
set_option maxRecDepth 100000 in
set_option maxHeartbeats 1000000 in
theorem law_FnExactLeavesOf (A : Option Addr) (n c : Nat) (zs : List Int) (w : World) (h : Row .i64 w A n zs) : Calls Try.prog 5 #[.slice A n c] w fun e w' => e = .returned (.bool true) ∧ Below w.heap.size w w' := by
  obtain ⟨hl, hm, _, hr⟩ := h
  unfold maxLen at hm
  subst hl
  by_cases hb : zs.length ≤ 1048576
  · have HR := Lib.hid hr
    have HT := Lib.hid (fun w' (hbw : Below w.heap.size w w') => toIntS A zs.length c zs w' rfl (hr.keep hbw) (by omega))
    have HS := Lib.hid (fun A c w (hr : Rd .i64 w A zs) => leavesS A zs.length c zs w rfl hr hb)
    have HI := Lib.hid (fun A c w (hr : Rd .i64 w A zs) => leavesI A zs.length c zs w rfl hr hb)
    obtain ⟨b, hv⟩ : ∃ b, b = leafV zs := ⟨_, rfl⟩
    rw [← hv] at HS HI
    clear hv hr
    go_enter Try.func5, Try.ntmps5
    go_wp2_with fail
    refine (HT.out _ (Below.refl _ _)).mono ?_
    rintro e w1 ⟨A1, c1, rfl, hB1⟩
    go_wp2_with fail
    refine (HS.out _ _ _ hB1.rd).mono ?_
    rintro e w2 ⟨rfl, hb2⟩
    have L2 := Lib.hid (below_then hB1.bel hb2)
    clear hB1 hb2
    go_wp2_with fail
    refine (HT.out _ L2.out).mono ?_
    rintro e w3 ⟨A3, c3, rfl, hB3⟩
    have G3 := Lib.hid hB3
    have L3 := Lib.hid (below_then L2.out hB3.bel)
    clear hB3
    go_wp2_with fail
    refine (HI.out _ _ _ G3.out.rd).mono ?_
    rintro e w4 ⟨rfl, hb4⟩
    have L4 := Lib.hid (below_then L3.out hb4)
    have R4 := Lib.hid (G3.out.rd.keep hb4)
    clear hb4
    go_wp2_with fail
    refine (HT.out _ L4.out).mono ?_
    rintro e w5 ⟨A5, c5, rfl, hB5⟩
    have L5 := Lib.hid (below_then L4.out hB5.bel)
    have G5 := Lib.hid hB5
    clear hB5
    go_wp2_with fail
    refine (eqIntS A3 A5 c3 c5 zs _ (R4.out.keep G5.out.bel) G5.out.rd (by omega)).mono ?_
    rintro e w6 ⟨rfl, hb6⟩
    go_wp2_with fail
    go_ret
    exact ⟨rfl, below_then L5.out hb6⟩
  · clear hr
    go_enter Try.func5, Try.ntmps5
    go_wp2
    go_ret
    exact ⟨rfl, Below.refl _ _⟩
end Go.Proofs.Ytndehfkamfmmeaa
