/-
  IsTriangulation of both packages and its law, walked.
-/
import Derived.Test.YthbfockobnfomaaTri2
import Derived.Test.YthbfockobnfomaaMat2
namespace Go.Proofs.Ythbfockobnfomaa
open Go.RowKit
def row (zss : List (List Int)) (i : Nat) : List Int := zss.getD i []
def befR (x y : List Int) : Bool := befB (x.getD 0 0) (x.getD 1 0) (y.getD 0 0) (y.getD 1 0)
def crR (x y : List Int) : Bool := crB (x.getD 0 0) (x.getD 1 0) (y.getD 0 0) (y.getD 1 0)
/-- Row i is fine with those before it. -/
def triR (n : Int) (zss : List (List Int)) (i : Nat) : Bool := diagB n (row zss i) && ((i == 0 || befR (row zss (i - 1)) (row zss i)) && (List.range i).all fun k => !crR (row zss k) (row zss i))
def triL (n : Int) : Int := if 0 < n - 3 then n - 3 else 0
def tri (n : Int) (zss : List (List Int)) : Bool := inR n 2 10 && (decide ((zss.length : Int) = triL n) && (List.range zss.length).all (triR n zss))
theorem all_get {f : Nat → Bool} {k : Nat} (h : (List.range k).all f = true) (j : Nat) (hj : j < k) : f j = true := List.all_eq_true.1 h j (by simpa using hj)
theorem all_succ {f : Nat → Bool} {k : Nat} (h : (List.range k).all f = true) (hk : f k = true) : (List.range (k + 1)).all f = true := by
  rw [List.all_eq_true] at h ⊢
  intro j hj
  have hj' : j < k + 1 := by simpa using hj
  by_cases he : j = k
  · subst he; exact hk
  · exact h j (by simp; omega)
theorem tri_out {n : Int} {zss : List (List Int)} (h : inR n 2 10 = false) : tri n zss = false := by simp only [tri, h, Bool.false_and]
theorem tri_len {n : Int} {zss : List (List Int)} (h : (zss.length : Int) ≠ triL n) : tri n zss = false := by simp only [tri, decide_eq_false h, Bool.false_and, Bool.and_false]
theorem tri_fail {n : Int} {zss : List (List Int)} {k : Nat} (hk : k < zss.length) (h : triR n zss k = false) : tri n zss = false := by
  cases ht : tri n zss with
  | false => rfl
  | true =>
    simp only [tri, Bool.and_eq_true] at ht
    have := all_get ht.2.2 k hk
    rw [h] at this; cases this
theorem tri_done {n : Int} {zss : List (List Int)} (h1 : inR n 2 10 = true) (h2 : (zss.length : Int) = triL n) (h3 : (List.range zss.length).all (triR n zss) = true) : tri n zss = true := by
  simp only [tri, h1, decide_eq_true h2, h3, Bool.and_self]
theorem triR_diag {n : Int} {zss : List (List Int)} {k : Nat} (h : diagB n (row zss k) = false) : triR n zss k = false := by simp only [triR, h, Bool.false_and]
theorem triR_bef {n : Int} {zss : List (List Int)} {k : Nat} (hk : k ≠ 0) (h : befR (row zss (k - 1)) (row zss k) = false) : triR n zss k = false := by
  have hb : (k == 0) = false := by rw [beq_eq_false_iff_ne]; exact hk
  simp only [triR, hb, h, Bool.or_self, Bool.false_and, Bool.and_false]
theorem triR_cr {n : Int} {zss : List (List Int)} {k j : Nat} (hj : j < k) (h : crR (row zss j) (row zss k) = true) : triR n zss k = false := by
  cases ht : triR n zss k with
  | false => rfl
  | true =>
    simp only [triR, Bool.and_eq_true] at ht
    have := all_get ht.2.2 j hj
    rw [h] at this; cases this
theorem triR_ok {n : Int} {zss : List (List Int)} {k : Nat} (h1 : diagB n (row zss k) = true) (h2 : k = 0 ∨ befR (row zss (k - 1)) (row zss k) = true) (h3 : ((List.range k).all fun j => !crR (row zss j) (row zss k)) = true) : triR n zss k = true := by
  simp only [triR, h1, h3, Bool.and_true, Bool.true_and]
  rcases h2 with h | h
  · subst h; rfl
  · rw [h]; simp
theorem triR_two {n : Int} {zss : List (List Int)} {k : Nat} (h : triR n zss k = true) : (row zss k).length = 2 := by
  simp only [triR, Bool.and_eq_true] at h; exact diagB_two h.1
theorem RdM.get {w : World} {b o : Nat} {zss : List (List Int)} (h : RdM w (some ⟨b, o, none⟩) zss) (i : Nat) (hi : i < zss.length) : ∃ Ai ci, (∀ w', Below w.heap.size w w' → w'.cell? ⟨b, o + i, none⟩ = some (.slice Ai (row zss i).length ci)) ∧ (row zss i).length ≤ maxLen ∧ Rd .i64 w Ai (row zss i) := by
  obtain ⟨b', o', Ai, ci, hA, hlt, hc, hm, hr⟩ := h i hi
  simp only [Option.some.injEq, Addr.mk.injEq, and_true] at hA
  obtain ⟨rfl, rfl⟩ := hA
  exact ⟨Ai, ci, fun w' hb => (hb.cell (p := ⟨b, o + i, none⟩) hlt).trans hc, hm, hr⟩
theorem dq {w a : World} (h : ∃ m, a = w.drewN m) (n : Nat) : ∃ m, a.drewN n = w.drewN m := by
  obtain ⟨m, rfl⟩ := h; exact ⟨_, World.drewN_drewN _ _ _⟩
theorem dq_b {w a : World} (h : ∃ m, a = w.drewN m) : Below w.heap.size w a := by obtain ⟨m, rfl⟩ := h; exact below_drewN (Below.refl _ _) _
theorem dq_t {w a b : World} (h : ∃ m, a = w.drewN m) (k : ∃ m, b = a.drewN m) : ∃ m, b = w.drewN m := by
  obtain ⟨m, rfl⟩ := h; obtain ⟨q, rfl⟩ := k; exact ⟨_, World.drewN_drewN _ _ _⟩

set_option maxRecDepth 100000 in
set_option maxHeartbeats 1000000 in
theorem isTriI (n : Int) (A : Option Addr) (c L : Nat) (zss : List (List Int)) (w : World) (hL : zss.length = L) (hL2 : L ≤ 1048576) (hLc : L ≤ c) (hcm : c ≤ 9223372036854775807) (ha : RdM w A zss) : Calls Try.prog 48 #[.int .i64 n, .slice A L c] w fun e w' => e = .returned (.bool (tri n zss)) ∧ Below w.heap.size w w' := by
  have HA := Lib.hid ha
  have HL := Lib.hid hL
  clear ha hL
  cases i1 : inR n 2 10 with
  | false =>
    have HF : Hid (tri n zss = false) := tri_out i1
    go_enter Try.func48, Try.ntmps48
    go_wp2_with (go_at_call 61; refine (withinC _ _ _ _).mono ?_; rintro e w' ⟨rfl, rfl⟩)
    go_ret
    exact ⟨by rw [HF.out]; rfl, Below.refl _ _⟩
  | true =>
    obtain ⟨n2, n10⟩ := inR_out i1
    by_cases hlen : (L : Int) = triL n
    · have HLE := Lib.hid hlen
      have HI1 := Lib.hid i1
      by_cases hd1 : 0 < n - 3
      · have hd2 : (L : Int) = n - 3 := by rw [hlen]; unfold triL; rw [if_pos hd1]
        have e1 : ((L : Int) != n - 3) = false := by rw [bne_eq_false_iff_eq]; exact hd2
        have hL7 : L ≤ 7 := by omega
        clear hlen hd2
        go_enter Try.func48, Try.ntmps48
        go_wp2_with (go_at_call 61; refine (withinC _ _ _ _).mono ?_; rintro e w' ⟨rfl, rfl⟩)
        clear e1
        go_loopw [22] (fun idx wr => ∃ k : Nat, k ≤ L ∧ idx = .int .i64 (k : Int) ∧ Hid ((List.range k).all (triR n zss) = true) ∧ Hid (∃ m, wr = w.drewN m)) (fun idx _ => L - (intOf idx).toNat)
        case atStart => exact ⟨0, by omega, rfl, rfl, 0, rfl⟩
        case round =>
          obtain ⟨k, hk, rfl, HT, HQ⟩ := hrel
          obtain ⟨wo, hwo⟩ : ∃ wo : World, wo = wr := ⟨_, rfl⟩
          rw [← hwo] at HQ ⊢
          clear hwo
          by_cases hlt : k < L
          · have hkl : k < zss.length := by rw [HL.out]; exact hlt
            obtain ⟨b, o, rfl⟩ := HA.out.form (by rw [HL.out]; omega)
            obtain ⟨Ak, ck, hck', hmk, hrk⟩ := HA.out.get k hkl
            have hck := hck' _ (dq_b HQ.out)
            have HRk := Lib.hid hrk
            obtain ⟨m, hm⟩ : ∃ m, m = (row zss k).length := ⟨_, rfl⟩
            rw [← hm] at hck hmk
            have HMm := Lib.hid hm
            have HD0 := Lib.hid (isDiagI n Ak ck m (row zss k) wo n2 n10 hm.symm hmk (hrk.keep (dq_b HQ.out)))
            clear hrk hck' hm
            cases hdg : diagB n (row zss k) with
            | false =>
              rw [hdg] at HD0
              have HF : Hid (tri n zss = false) := tri_fail hkl (triR_diag hdg)
              clear hdg
              go_wp2_with (go_at_call 81; refine (HD0.out).mono ?_; rintro e w' ⟨rfl, q, rfl⟩)
              go_ret
              exact ⟨by rw [HF.out]; rfl, below_drewN (dq_b HQ.out) _⟩
            | true =>
              rw [hdg] at HD0
              have HDk := Lib.hid hdg
              have hm2 : m = 2 := by rw [HMm.out]; exact diagB_two hdg
              subst hm2
              have HZk : Hid ((row zss k).length = 2) := HMm.out.symm
              obtain ⟨pk', ok', rfl, _, _⟩ := Two.of (HRk.out.keep (dq_b HQ.out)) HZk.out
              clear hdg hmk
              by_cases hk0 : k = 0
              · subst hk0
                rw [Nat.add_zero] at hck
                go_wp2_with ((with_reducible (go_at_call 81; refine (HD0.out).mono ?_)); rintro e w' ⟨rfl, q, rfl⟩)
                have HT2 : Hid ((List.range 1).all (triR n zss) = true) := all_succ HT.out (triR_ok HDk.out (.inl rfl) rfl)
                refine wp_loop_rounds 1 ?_
                rw [rounds_succ]
                go_wp2
                go_roundw
                case rel => exact ⟨1, by omega, rfl, HT2.out, dq HQ.out q⟩
                case measure => simp [intOf]; omega
              · have hk1 : 0 < k := by omega
                obtain ⟨Ap, cp, hcp', hmp, hrp⟩ := HA.out.get (k - 1) (by omega)
                have hpl := triR_two (all_get HT.out (k - 1) (by omega))
                rw [hpl] at hcp'
                have HRp := Lib.hid hrp
                have HPl := Lib.hid hpl
                have HCp := Lib.hid hcp'
                obtain ⟨pp, op, rfl, _, _⟩ := Two.of (HRp.out.keep (dq_b HQ.out)) HPl.out
                have HCM := Lib.hid (fun w' (hb : Below w.heap.size w w') => compareI _ _ _ _ _ _ cp ck w' (Two.of (HRp.out.keep hb) HPl.out) (Two.of (HRk.out.keep hb) HZk.out))
                have hk1' : ((k : Int) - 1) = ((k - 1 : Nat) : Int) := by omega
                have hcp := hcp' _ (dq_b HQ.out)
                have HBf : Hid (decide (0 ≤ cm2 ((row zss (k - 1)).getD 0 0) ((row zss (k - 1)).getD 1 0) ((row zss k).getD 0 0) ((row zss k).getD 1 0)) = !befR (row zss (k - 1)) (row zss k)) := cm2_bef _ _ _ _
                obtain ⟨cm, hcm2⟩ : ∃ cm, cm = cm2 ((row zss (k - 1)).getD 0 0) ((row zss (k - 1)).getD 1 0) ((row zss k).getD 0 0) ((row zss k).getD 1 0) := ⟨_, rfl⟩
                rw [← hcm2] at HCM HBf
                clear hcm2 hrp hpl hcp' hmp
                cases hbf : befR (row zss (k - 1)) (row zss k) with
                | false =>
                  have HF : Hid (tri n zss = false) := tri_fail hkl (triR_bef hk0 hbf)
                  have hge : decide (0 ≤ cm) = true := by have := HBf.out; rw [hbf] at this; exact this
                  have hge' : 0 ≤ cm := of_decide_eq_true hge
                  clear hbf HBf
                  go_wp2_with ((with_reducible (go_at_call 81; refine (HD0.out).mono ?_)); rintro e w' ⟨rfl, q, rfl⟩)
                  refine (HCM.out _ (below_drewN (dq_b HQ.out) _)).mono ?_
                  rintro e w' ⟨rfl, rfl⟩
                  go_wp2_with fail
                  go_ret
                  exact ⟨by rw [HF.out]; rfl, below_drewN (dq_b HQ.out) _⟩
                | true =>
                  have hge : decide (0 ≤ cm) = false := by have := HBf.out; rw [hbf] at this; exact this
                  have hge' : ¬ 0 ≤ cm := of_decide_eq_false hge
                  have HBk := Lib.hid hbf
                  clear hbf HBf
                  go_wp2_with ((with_reducible (go_at_call 81; refine (HD0.out).mono ?_)); rintro e w' ⟨rfl, q, rfl⟩)
                  refine (HCM.out _ (below_drewN (dq_b HQ.out) _)).mono ?_
                  rintro e w' ⟨rfl, rfl⟩
                  go_wp2_with fail
                  go_loopw [49] (fun idx wz => ∃ j : Nat, j ≤ k ∧ idx = .int .i64 (j : Int) ∧ Hid (((List.range j).all fun j => !crR (row zss j) (row zss k)) = true) ∧ Hid (∃ m, wz = wo.drewN m)) (fun idx _ => k - (intOf idx).toNat)
                  case atStart => exact ⟨0, by omega, rfl, rfl, ⟨q, rfl⟩⟩
                  case round =>
                    obtain ⟨j, hj, rfl, HC, HQz⟩ := hrel
                    by_cases hj2 : j < k
                    · obtain ⟨Aj, cj, hcj', hmj, hrj⟩ := HA.out.get j (by rw [HL.out]; omega)
                      have hjl := triR_two (all_get HT.out j hj2)
                      rw [hjl] at hcj'
                      obtain ⟨pj, oj, rfl, g0', g1'⟩ := Two.of (hrj.keep (dq_b (dq_t HQ.out HQz.out))) hjl
                      obtain ⟨pk, ok, hAk, h0', h1'⟩ := Two.of (HRk.out.keep (dq_b (dq_t HQ.out HQz.out))) HZk.out
                      simp only [Option.some.injEq, Addr.mk.injEq, and_true] at hAk
                      obtain ⟨rfl, rfl⟩ := hAk
                      have hcj := hcj' _ (dq_b (dq_t HQ.out HQz.out))
                      have HCR : Hid (crR (row zss j) (row zss k) = crB ((row zss j).getD 0 0) ((row zss j).getD 1 0) ((row zss k).getD 0 0) ((row zss k).getD 1 0)) := rfl
                      obtain ⟨y0, hy0⟩ : ∃ y, y = (row zss j).getD 0 0 := ⟨_, rfl⟩
                      obtain ⟨y1, hy1⟩ : ∃ y, y = (row zss j).getD 1 0 := ⟨_, rfl⟩
                      obtain ⟨x0, hx0⟩ : ∃ y, y = (row zss k).getD 0 0 := ⟨_, rfl⟩
                      obtain ⟨x1, hx1⟩ : ∃ y, y = (row zss k).getD 1 0 := ⟨_, rfl⟩
                      rw [← hy0, ← hy1, ← hx0, ← hx1] at HCR
                      rw [← hy0] at g0'
                      rw [← hy1] at g1'
                      rw [← hx0] at h0'
                      rw [← hx1] at h1'
                      clear hy0 hy1 hx0 hx1 hcj' hrj hjl hmj
                      by_cases p1 : y0 < x0
                      · have dp1 : decide (y0 < x0) = true := decide_eq_true p1
                        by_cases p2 : x0 < y1
                        · have dp2 : decide (x0 < y1) = true := decide_eq_true p2
                          by_cases p3 : y1 < x1
                          · have dp3 : decide (y1 < x1) = true := decide_eq_true p3
                            have HV : Hid (crB y0 y1 x0 x1 = true) := by show _ = _; simp only [crB, dp1, dp2, dp3]; rfl
                            have HF : Hid (tri n zss = false) := tri_fail hkl (triR_cr hj2 (HCR.out.trans HV.out))
                            clear HV
                            go_wp2_with fail
                            go_quiet (fail)
                            go_wp2
                            go_ret
                            exact ⟨by rw [HF.out]; rfl, below_drewN (dq_b (dq_t HQ.out HQz.out)) _⟩
                          · have dp3 : decide (y1 < x1) = false := decide_eq_false p3
                            have dq1 : decide (x0 < y0) = false := decide_eq_false (by omega)
                            have HV : Hid (crB y0 y1 x0 x1 = false) := by show _ = _; simp only [crB, dp1, dp2, dp3, dq1]; rfl
                            have HC2 : Hid (((List.range (j + 1)).all fun j => !crR (row zss j) (row zss k)) = true) := all_succ HC.out (by rw [HCR.out, HV.out]; rfl)
                            clear HV
                            go_wp2_with fail
                            go_quiet (fail)
                            go_wp2
                            go_roundw
                            case rel => exact ⟨j + 1, by omega, by go_num, HC2.out, dq HQz.out _⟩
                            case measure => simp [intOf]; omega
                        · have dp2 : decide (x0 < y1) = false := decide_eq_false p2
                          have dq1 : decide (x0 < y0) = false := decide_eq_false (by omega)
                          have HV : Hid (crB y0 y1 x0 x1 = false) := by show _ = _; simp only [crB, dp1, dp2, dq1]; rfl
                          have HC2 : Hid (((List.range (j + 1)).all fun j => !crR (row zss j) (row zss k)) = true) := all_succ HC.out (by rw [HCR.out, HV.out]; rfl)
                          clear HV
                          go_wp2_with fail
                          go_quiet (fail)
                          go_wp2
                          go_roundw
                          case rel => exact ⟨j + 1, by omega, by go_num, HC2.out, dq HQz.out _⟩
                          case measure => simp [intOf]; omega
                      · have dp1 : decide (y0 < x0) = false := decide_eq_false p1
                        by_cases q1 : x0 < y0
                        · have dq1 : decide (x0 < y0) = true := decide_eq_true q1
                          by_cases q2 : y0 < x1
                          · have dq2 : decide (y0 < x1) = true := decide_eq_true q2
                            by_cases q3 : x1 < y1
                            · have dq3 : decide (x1 < y1) = true := decide_eq_true q3
                              have HV : Hid (crB y0 y1 x0 x1 = true) := by show _ = _; simp only [crB, dp1, dq1, dq2, dq3]; rfl
                              have HF : Hid (tri n zss = false) := tri_fail hkl (triR_cr hj2 (HCR.out.trans HV.out))
                              clear HV
                              go_wp2_with fail
                              go_quiet (fail)
                              go_wp2
                              go_ret
                              exact ⟨by rw [HF.out]; rfl, below_drewN (dq_b (dq_t HQ.out HQz.out)) _⟩
                            · have dq3 : decide (x1 < y1) = false := decide_eq_false q3
                              have HV : Hid (crB y0 y1 x0 x1 = false) := by show _ = _; simp only [crB, dp1, dq1, dq2, dq3]; rfl
                              have HC2 : Hid (((List.range (j + 1)).all fun j => !crR (row zss j) (row zss k)) = true) := all_succ HC.out (by rw [HCR.out, HV.out]; rfl)
                              clear HV
                              go_wp2_with fail
                              go_quiet (fail)
                              go_wp2
                              go_roundw
                              case rel => exact ⟨j + 1, by omega, by go_num, HC2.out, dq HQz.out _⟩
                              case measure => simp [intOf]; omega
                          · have dq2 : decide (y0 < x1) = false := decide_eq_false q2
                            have HV : Hid (crB y0 y1 x0 x1 = false) := by show _ = _; simp only [crB, dp1, dq1, dq2]; rfl
                            have HC2 : Hid (((List.range (j + 1)).all fun j => !crR (row zss j) (row zss k)) = true) := all_succ HC.out (by rw [HCR.out, HV.out]; rfl)
                            clear HV
                            go_wp2_with fail
                            go_quiet (fail)
                            go_wp2
                            go_roundw
                            case rel => exact ⟨j + 1, by omega, by go_num, HC2.out, dq HQz.out _⟩
                            case measure => simp [intOf]; omega
                        · have dq1 : decide (x0 < y0) = false := decide_eq_false q1
                          have HV : Hid (crB y0 y1 x0 x1 = false) := by show _ = _; simp only [crB, dp1, dq1]; rfl
                          have HC2 : Hid (((List.range (j + 1)).all fun j => !crR (row zss j) (row zss k)) = true) := all_succ HC.out (by rw [HCR.out, HV.out]; rfl)
                          clear HV
                          go_wp2_with fail
                          go_quiet (fail)
                          go_wp2
                          go_roundw
                          case rel => exact ⟨j + 1, by omega, by go_num, HC2.out, dq HQz.out _⟩
                          case measure => simp [intOf]; omega
                    · obtain rfl : j = k := by omega
                      have HT2 : Hid ((List.range (j + 1)).all (triR n zss) = true) := all_succ HT.out (triR_ok HDk.out (.inr HBk.out) HC.out)
                      go_wp2
                      go_roundw
                      case rel => exact ⟨j + 1, by omega, by go_num, HT2.out, dq_t HQ.out HQz.out⟩
                      case measure => simp [intOf]; omega

          · obtain rfl : k = L := by omega
            have HF : Hid (tri n zss = true) := tri_done HI1.out (by rw [HL.out]; exact HLE.out) (by rw [HL.out]; exact HT.out)
            go_wp2
            go_ret
            exact ⟨by rw [HF.out]; rfl, dq_b HQ.out⟩
      · have hd2 : (L : Int) = 0 := by rw [hlen]; unfold triL; rw [if_neg hd1]
        have hL0 : L = 0 := by omega
        subst hL0
        have HF : Hid (tri n zss = true) := tri_done i1 (by rw [HL.out]; exact hlen) (by rw [HL.out]; rfl)
        clear hlen hd2
        go_enter Try.func48, Try.ntmps48
        go_wp2_with (go_at_call 61; refine (withinC _ _ _ _).mono ?_; rintro e w' ⟨rfl, rfl⟩)
        refine wp_loop_rounds 1 ?_
        rw [rounds_succ]
        go_wp2
        go_ret
        exact ⟨by rw [HF.out]; rfl, Below.refl _ _⟩
    · have HF : Hid (tri n zss = false) := tri_len (by rw [HL.out]; exact hlen)
      by_cases hd1 : 0 < n - 3
      · have e1 : ((L : Int) != n - 3) = true := by rw [bne_iff_ne]; unfold triL at hlen; rw [if_pos hd1] at hlen; exact hlen
        clear hlen
        go_enter Try.func48, Try.ntmps48
        go_wp2_with (go_at_call 61; refine (withinC _ _ _ _).mono ?_; rintro e w' ⟨rfl, rfl⟩)
        go_ret
        exact ⟨by rw [HF.out]; rfl, Below.refl _ _⟩
      · have e1 : ((L : Int) != 0) = true := by rw [bne_iff_ne]; unfold triL at hlen; rw [if_neg hd1] at hlen; exact hlen
        clear hlen
        go_enter Try.func48, Try.ntmps48
        go_wp2_with (go_at_call 61; refine (withinC _ _ _ _).mono ?_; rintro e w' ⟨rfl, rfl⟩)
        go_ret
        exact ⟨by rw [HF.out]; rfl, Below.refl _ _⟩
end Go.Proofs.Ythbfockobnfomaa
