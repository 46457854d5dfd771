/-
  Diagonals: spec.l7Before, spec.l7Crosses, impl.isDiagonal, slices.Compare of two pairs, walked.
-/
import Derived.Test.YthbfockobnfomaaMat
import Derived.Test.YthbfockobnfomaaOps
namespace Go.Proofs.Ythbfockobnfomaa
open Go.RowKit
/-- A pair of numbers in memory. -/
def Two (w : World) (A : Option Addr) (x y : Int) : Prop := ∃ b o, A = some ⟨b, o, none⟩ ∧ w.cell? ⟨b, o, none⟩ = some (.int .i64 x) ∧ w.cell? ⟨b, o + 1, none⟩ = some (.int .i64 y)
theorem Two.of {w : World} {A : Option Addr} {z : List Int} (h : Rd .i64 w A z) (h2 : z.length = 2) : Two w A (z.getD 0 0) (z.getD 1 0) := by
  obtain ⟨b, o, rfl⟩ := h.form (by omega)
  have h0 := h.at_ 0 (by omega)
  rw [Nat.add_zero] at h0
  exact ⟨b, o, rfl, h0, h.at_ 1 (by omega)⟩
theorem Two.drewN {w : World} {A : Option Addr} {x y : Int} (h : Two w A x y) (n : Nat) : Two (w.drewN n) A x y := h
def befB (x0 x1 y0 y1 : Int) : Bool := decide (x0 < y0) || ((x0 == y0) && decide (x1 < y1))
def crB (a0 a1 b0 b1 : Int) : Bool := (decide (a0 < b0) && (decide (b0 < a1) && decide (a1 < b1))) || (decide (b0 < a0) && (decide (a0 < b1) && decide (b1 < a1)))
/-- How two pairs compare. -/
def cmI (x y : Int) : Int := if x < y then -1 else if y < x then 1 else 0
def cm2 (x0 x1 y0 y1 : Int) : Int := if x0 < y0 then -1 else if y0 < x0 then 1 else cmI x1 y1
theorem cm2_bef (x0 x1 y0 y1 : Int) : decide (0 ≤ cm2 x0 x1 y0 y1) = !befB x0 x1 y0 y1 := by
  unfold cm2 cmI befB
  by_cases h1 : x0 < y0
  · simp [h1]
  · by_cases h2 : y0 < x0
    · have h3 : (x0 == y0) = false := by rw [beq_eq_false_iff_ne]; omega
      simp [h1, h2, h3]
    · have h3 : (x0 == y0) = true := by rw [beq_iff_eq]; omega
      by_cases h4 : x1 < y1
      · simp [h1, h2, h3, h4]
      · by_cases h5 : y1 < x1 <;> simp [h1, h2, h3, h4, h5]

set_option maxRecDepth 100000 in
set_option maxHeartbeats 1000000 in
theorem crossS (A B : Option Addr) (a0 a1 b0 b1 : Int) (c d : Nat) (w : World) (ha : Two w A a0 a1) (hb : Two w B b0 b1) : Calls Try.prog 80 #[.slice A 2 c, .slice B 2 d] w fun e w' => e = .returned (.bool (crB a0 a1 b0 b1)) ∧ ∃ m, w' = w.drewN m := by
  obtain ⟨p, o, rfl, h0, h1⟩ := ha
  obtain ⟨q, u, rfl, k0, k1⟩ := hb
  by_cases p1 : a0 < b0
  · have dp1 : decide (a0 < b0) = true := decide_eq_true p1
    by_cases p2 : b0 < a1
    · have dp2 : decide (b0 < a1) = true := decide_eq_true p2
      by_cases p3 : a1 < b1
      · have dp3 : decide (a1 < b1) = true := decide_eq_true p3
        have HV : Hid (crB a0 a1 b0 b1 = true) := by show _ = _; simp only [crB, dp1, dp2, dp3]; rfl
        go_enter Try.func80, Try.ntmps80
        go_wp2_with fail
        go_quiet (fail)
        go_wp2
        go_ret
        exact ⟨by rw [HV.out]; rfl, nq, rfl⟩
      · have dp3 : decide (a1 < b1) = false := decide_eq_false p3
        have dq1 : decide (b0 < a0) = false := decide_eq_false (by omega)
        have HV : Hid (crB a0 a1 b0 b1 = false) := by show _ = _; simp only [crB, dp1, dp2, dp3, dq1]; rfl
        go_enter Try.func80, Try.ntmps80
        go_wp2_with fail
        go_quiet (fail)
        go_wp2
        go_ret
        exact ⟨by rw [HV.out]; rfl, nq, rfl⟩
    · have dp2 : decide (b0 < a1) = false := decide_eq_false p2
      have dq1 : decide (b0 < a0) = false := decide_eq_false (by omega)
      have HV : Hid (crB a0 a1 b0 b1 = false) := by show _ = _; simp only [crB, dp1, dp2, dq1]; rfl
      go_enter Try.func80, Try.ntmps80
      go_wp2_with fail
      go_quiet (fail)
      go_wp2
      go_ret
      exact ⟨by rw [HV.out]; rfl, nq, rfl⟩
  · have dp1 : decide (a0 < b0) = false := decide_eq_false p1
    by_cases q1 : b0 < a0
    · have dq1 : decide (b0 < a0) = true := decide_eq_true q1
      by_cases q2 : a0 < b1
      · have dq2 : decide (a0 < b1) = true := decide_eq_true q2
        by_cases q3 : b1 < a1
        · have dq3 : decide (b1 < a1) = true := decide_eq_true q3
          have HV : Hid (crB a0 a1 b0 b1 = true) := by show _ = _; simp only [crB, dp1, dq1, dq2, dq3]; rfl
          go_enter Try.func80, Try.ntmps80
          go_wp2_with fail
          go_quiet (fail)
          go_wp2
          go_ret
          exact ⟨by rw [HV.out]; rfl, nq, rfl⟩
        · have dq3 : decide (b1 < a1) = false := decide_eq_false q3
          have HV : Hid (crB a0 a1 b0 b1 = false) := by show _ = _; simp only [crB, dp1, dq1, dq2, dq3]; rfl
          go_enter Try.func80, Try.ntmps80
          go_wp2_with fail
          go_quiet (fail)
          go_wp2
          go_ret
          exact ⟨by rw [HV.out]; rfl, nq, rfl⟩
      · have dq2 : decide (a0 < b1) = false := decide_eq_false q2
        have HV : Hid (crB a0 a1 b0 b1 = false) := by show _ = _; simp only [crB, dp1, dq1, dq2]; rfl
        go_enter Try.func80, Try.ntmps80
        go_wp2_with fail
        go_quiet (fail)
        go_wp2
        go_ret
        exact ⟨by rw [HV.out]; rfl, nq, rfl⟩
    · have dq1 : decide (b0 < a0) = false := decide_eq_false q1
      have HV : Hid (crB a0 a1 b0 b1 = false) := by show _ = _; simp only [crB, dp1, dq1]; rfl
      go_enter Try.func80, Try.ntmps80
      go_wp2_with fail
      go_quiet (fail)
      go_wp2
      go_ret
      exact ⟨by rw [HV.out]; rfl, nq, rfl⟩
set_option maxRecDepth 100000 in
set_option maxHeartbeats 1000000 in
theorem beforeS (A B : Option Addr) (x0 x1 y0 y1 : Int) (c d : Nat) (w : World) (ha : Two w A x0 x1) (hb : Two w B y0 y1) : Calls Try.prog 79 #[.slice A 2 c, .slice B 2 d] w fun e w' => e = .returned (.bool (befB x0 x1 y0 y1)) ∧ ∃ m, w' = w.drewN m := by
  obtain ⟨p, o, rfl, h0, h1⟩ := ha
  obtain ⟨q, u, rfl, k0, k1⟩ := hb
  by_cases p1 : x0 < y0
  · have d1 : decide (x0 < y0) = true := decide_eq_true p1
    have HV : Hid (befB x0 x1 y0 y1 = true) := by show _ = _; simp only [befB, d1]; rfl
    go_enter Try.func79, Try.ntmps79
    go_wp2_with fail
    go_quiet (fail)
    go_wp2
    go_ret
    exact ⟨by rw [HV.out]; rfl, nq, rfl⟩
  · have d1 : decide (x0 < y0) = false := decide_eq_false p1
    by_cases p2 : x0 = y0
    · have d2 : (x0 == y0) = true := by simpa using p2
      have HV : Hid (befB x0 x1 y0 y1 = decide (x1 < y1)) := by show _ = _; simp only [befB, d1, d2]; rfl
      clear p2
      go_enter Try.func79, Try.ntmps79
      go_wp2_with fail
      go_quiet (fail)
      go_wp2
      go_ret
      exact ⟨by rw [HV.out]; rfl, nq, rfl⟩
    · have d2 : (x0 == y0) = false := by simpa using p2
      have HV : Hid (befB x0 x1 y0 y1 = false) := by show _ = _; simp only [befB, d1, d2]; rfl
      clear p2
      go_enter Try.func79, Try.ntmps79
      go_wp2_with fail
      go_quiet (fail)
      go_wp2
      go_ret
      exact ⟨by rw [HV.out]; rfl, nq, rfl⟩
end Go.Proofs.Ythbfockobnfomaa
