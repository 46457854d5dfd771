/-
  slices.Compare of two pairs and impl.isDiagonal, walked.
-/
import Derived.Test.YthbfockobnfomaaTri
namespace Go.Proofs.Ythbfockobnfomaa
open Go.RowKit
theorem isNaNI (x : Int) (w : World) : Calls Try.prog 99 #[.int .i64 x] w fun e w' => e = .returned (.bool false) ∧ w = w' := by
  go_enter Try.func99, Try.ntmps99
  go_wp2
  go_ret
  exact ⟨rfl, rfl⟩
set_option maxRecDepth 100000 in
theorem cmpI (x y : Int) (w : World) : Calls Try.prog 93 #[.int .i64 x, .int .i64 y] w fun e w' => e = .returned (.int .i64 (cmI x y)) ∧ w = w' := by
  by_cases h1 : x < y
  · have HV : Hid (cmI x y = -1) := by show _ = _; simp only [cmI, if_pos h1]
    go_enter Try.func93, Try.ntmps93
    go_wp2_with (go_at_call 99; refine (isNaNI _ _).mono ?_; rintro e w' ⟨rfl, rfl⟩)
    go_ret
    exact ⟨by rw [HV.out]; rfl, rfl⟩
  · by_cases h2 : y < x
    · have HV : Hid (cmI x y = 1) := by show _ = _; simp only [cmI, if_neg h1, if_pos h2]
      go_enter Try.func93, Try.ntmps93
      go_wp2_with (go_at_call 99; refine (isNaNI _ _).mono ?_; rintro e w' ⟨rfl, rfl⟩)
      go_ret
      exact ⟨by rw [HV.out]; rfl, rfl⟩
    · have HV : Hid (cmI x y = 0) := by show _ = _; simp only [cmI, if_neg h1, if_neg h2]
      go_enter Try.func93, Try.ntmps93
      go_wp2_with (go_at_call 99; refine (isNaNI _ _).mono ?_; rintro e w' ⟨rfl, rfl⟩)
      go_ret
      exact ⟨by rw [HV.out]; rfl, rfl⟩
set_option maxRecDepth 100000 in
set_option maxHeartbeats 1000000 in
theorem compareI (A B : Option Addr) (x0 x1 y0 y1 : Int) (c d : Nat) (w : World) (ha : Two w A x0 x1) (hb : Two w B y0 y1) : Calls Try.prog 82 #[.slice A 2 c, .slice B 2 d] w fun e w' => e = .returned (.int .i64 (cm2 x0 x1 y0 y1)) ∧ w = w' := by
  obtain ⟨p, o, rfl, h0, h1⟩ := ha
  obtain ⟨q, u, rfl, k0, k1⟩ := hb
  have HC0 := Lib.hid (fun w => cmpI x0 y0 w)
  have HC1 := Lib.hid (fun w => cmpI x1 y1 w)
  by_cases e0 : cmI x0 y0 = 0
  · have hxy : ¬ x0 < y0 ∧ ¬ y0 < x0 := by unfold cmI at e0; split at e0 <;> first | omega | (split at e0 <;> omega)
    have HV : Hid (cm2 x0 x1 y0 y1 = cmI x1 y1) := by show _ = _; simp only [cm2, if_neg hxy.1, if_neg hxy.2]
    rw [e0] at HC0
    have z0 : ((0 : Int) != 0) = false := rfl
    by_cases e1 : cmI x1 y1 = 0
    · have HV2 : Hid (cm2 x0 x1 y0 y1 = 0) := by show _ = _; rw [HV.out, e1]
      rw [e1] at HC1
      clear e0 e1 hxy
      go_enter Try.func82, Try.ntmps82
      go_wp2_with fail
      refine wp_loop_rounds 3 ?_
      rw [rounds_succ]
      go_wp2_with (go_at_call 93; refine (HC0.out _).mono ?_; rintro e w' ⟨rfl, rfl⟩)
      rw [rounds_succ]
      go_wp2_with (go_at_call 93; refine (HC1.out _).mono ?_; rintro e w' ⟨rfl, rfl⟩)
      rw [rounds_succ]
      go_wp2
      go_ret
      exact ⟨by rw [HV2.out]; rfl, rfl⟩
    · have z1 : (cmI x1 y1 != 0) = true := by simpa using e1
      obtain ⟨y, hy⟩ : ∃ y, y = cmI x1 y1 := ⟨_, rfl⟩
      rw [← hy] at HC1 z1 HV
      clear e0 e1 hxy hy
      go_enter Try.func82, Try.ntmps82
      go_wp2_with fail
      refine wp_loop_rounds 2 ?_
      rw [rounds_succ]
      go_wp2_with (go_at_call 93; refine (HC0.out _).mono ?_; rintro e w' ⟨rfl, rfl⟩)
      rw [rounds_succ]
      go_wp2_with (go_at_call 93; refine (HC1.out _).mono ?_; rintro e w' ⟨rfl, rfl⟩)
      go_ret
      exact ⟨by rw [HV.out]; rfl, rfl⟩
  · have HV : Hid (cm2 x0 x1 y0 y1 = cmI x0 y0) := by
      show _ = _
      unfold cm2 cmI
      by_cases g1 : x0 < y0
      · rw [if_pos g1, if_pos g1]
      · by_cases g2 : y0 < x0
        · rw [if_neg g1, if_pos g2, if_neg g1, if_pos g2]
        · exact absurd (by simp only [cmI, if_neg g1, if_neg g2]) e0
    have z1 : (cmI x0 y0 != 0) = true := by simpa using e0
    obtain ⟨y, hy⟩ : ∃ y, y = cmI x0 y0 := ⟨_, rfl⟩
    rw [← hy] at HC0 z1 HV
    clear e0 hy
    go_enter Try.func82, Try.ntmps82
    go_wp2_with fail
    refine wp_loop_rounds 1 ?_
    rw [rounds_succ]
    go_wp2_with (go_at_call 93; refine (HC0.out _).mono ?_; rintro e w' ⟨rfl, rfl⟩)
    go_ret
    exact ⟨by rw [HV.out]; rfl, rfl⟩
/-- Whether a row is a diagonal of a polygon with n corners. -/
def diagB (n : Int) (z : List Int) : Bool := decide (z.length = 2) && (inR (z.getD 0 0) 0 (n - 1) && (inR (z.getD 1 0) 0 (n - 1) && (decide (2 ≤ z.getD 1 0 - z.getD 0 0) && ((z.getD 0 0 != 0) || (z.getD 1 0 != n - 1)))))
theorem diagB_two {n : Int} {z : List Int} (h : diagB n z = true) : z.length = 2 := by
  simp only [diagB, Bool.and_eq_true, decide_eq_true_eq] at h; exact h.1

set_option maxRecDepth 100000 in
set_option maxHeartbeats 1000000 in
theorem isDiagI (n : Int) (A : Option Addr) (c L : Nat) (z : List Int) (w : World) (h2 : 2 ≤ n) (h10 : n ≤ 10) (hL : z.length = L) (hm : L ≤ maxLen) (ha : Rd .i64 w A z) : Calls Try.prog 81 #[.int .i64 n, .slice A L c] w fun e w' => e = .returned (.bool (diagB n z)) ∧ ∃ m, w' = w.drewN m := by
  unfold maxLen at hm
  by_cases hz : L = 2
  · subst hz
    obtain ⟨p, o, rfl, h0, h1⟩ := Two.of ha hL
    have HV : Hid (diagB n z = (inR (z.getD 0 0) 0 (n - 1) && (inR (z.getD 1 0) 0 (n - 1) && (decide (2 ≤ z.getD 1 0 - z.getD 0 0) && ((z.getD 0 0 != 0) || (z.getD 1 0 != n - 1)))))) := by
      show _ = _; simp only [diagB, hL]; rfl
    obtain ⟨x, hx⟩ : ∃ x, x = z.getD 0 0 := ⟨_, rfl⟩
    obtain ⟨y, hy⟩ : ∃ y, y = z.getD 1 0 := ⟨_, rfl⟩
    rw [← hx] at h0 HV
    rw [← hy] at h1 HV
    have k1 : IntKind.i64.wrap (n - 1) = n - 1 := IntWalk.i64_in _ ⟨by omega, by omega⟩
    have HW := Lib.hid (fun x w => withinC x 0 (n - 1) w)
    clear ha hL hm hx hy
    cases i1 : inR x 0 (n - 1) with
    | false =>
      have HF : Hid (diagB n z = false) := by show _ = _; rw [HV.out, i1]; rfl
      go_enter Try.func81, Try.ntmps81
      go_wp2_with fail
      go_quiet ((go_at_call 61; exact quiet_left (HW.out _ _)))
      go_wp2
      go_ret
      exact ⟨by rw [HF.out]; rfl, nq, rfl⟩
    | true =>
      cases i2 : inR y 0 (n - 1) with
      | false =>
        have HF : Hid (diagB n z = false) := by show _ = _; rw [HV.out, i1, i2]; rfl
        go_enter Try.func81, Try.ntmps81
        go_wp2_with fail
        go_quiet ((go_at_call 61; exact quiet_left (HW.out _ _)))
        go_wp2
        go_ret
        exact ⟨by rw [HF.out]; rfl, nq, rfl⟩
      | true =>
        have hx1 := inR_out i1
        have hy1 := inR_out i2
        have k2 : IntKind.i64.wrap (y - x) = y - x := IntWalk.i64_in _ ⟨by omega, by omega⟩
        by_cases g : 2 ≤ y - x
        · have dg : decide (2 ≤ y - x) = true := decide_eq_true g
          by_cases x0 : x = 0
          · have dx : (x != 0) = false := by simpa using x0
            have HF : Hid (diagB n z = (y != n - 1)) := by show _ = _; rw [HV.out, i1, i2, dg, dx]; rfl
            obtain ⟨x1, x2⟩ := hx1
            obtain ⟨y1, y2⟩ := hy1
            clear x0 g
            go_enter Try.func81, Try.ntmps81
            go_wp2_with fail
            go_quiet ((go_at_call 61; exact quiet_left (HW.out _ _)))
            go_wp2
            go_ret
            exact ⟨by rw [HF.out]; rfl, nq, rfl⟩
          · have dx : (x != 0) = true := by simpa using x0
            have HF : Hid (diagB n z = true) := by show _ = _; rw [HV.out, i1, i2, dg, dx]; rfl
            obtain ⟨x1, x2⟩ := hx1
            obtain ⟨y1, y2⟩ := hy1
            clear x0 g
            go_enter Try.func81, Try.ntmps81
            go_wp2_with fail
            go_quiet ((go_at_call 61; exact quiet_left (HW.out _ _)))
            go_wp2
            go_ret
            exact ⟨by rw [HF.out]; rfl, nq, rfl⟩
        · have dg : decide (2 ≤ y - x) = false := decide_eq_false g
          have HF : Hid (diagB n z = false) := by show _ = _; rw [HV.out, i1, i2, dg]; rfl
          obtain ⟨x1, x2⟩ := hx1
          obtain ⟨y1, y2⟩ := hy1
          clear g
          go_enter Try.func81, Try.ntmps81
          go_wp2_with fail
          go_quiet ((go_at_call 61; exact quiet_left (HW.out _ _)))
          go_wp2
          go_ret
          exact ⟨by rw [HF.out]; rfl, nq, rfl⟩
  · have HF : Hid (diagB n z = false) := by show _ = _; simp only [diagB, decide_eq_false (show ¬ z.length = 2 by omega), Bool.false_and]
    have e1 : ((L : Int) == 2) = false := by rw [beq_eq_false_iff_ne]; omega
    have e2 : (L == 2) = false := by rw [beq_eq_false_iff_ne]; exact hz
    clear ha hL hz
    go_enter Try.func81, Try.ntmps81
    go_wp2_with fail
    go_quiet ((go_at_call 61; exact quiet_left (withinC _ _ _ _)))
    go_wp2
    go_ret
    exact ⟨by rw [HF.out]; rfl, nq, rfl⟩
end Go.Proofs.Ythbfockobnfomaa
