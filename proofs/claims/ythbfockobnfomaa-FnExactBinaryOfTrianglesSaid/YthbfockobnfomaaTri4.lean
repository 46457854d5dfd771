/-
  spec.IsTriangulation, walked.
-/
import Derived.Test.YthbfockobnfomaaTri3
namespace Go.Proofs.Ythbfockobnfomaa
open Go.RowKit
theorem diagB_at {n : Int} {z : List Int} (hz : z.length = 2) : diagB n z = (inR (z.getD 0 0) 0 (n - 1) && (inR (z.getD 1 0) 0 (n - 1) && (decide (2 ≤ z.getD 1 0 - z.getD 0 0) && ((z.getD 0 0 != 0) || (z.getD 1 0 != n - 1))))) := by simp only [diagB, hz]; rfl
theorem diag_low {n x y : Int} (h1 : inR x 0 (n - 1) = true) (h2 : inR y (x + 2) (n - 1) = false) : (inR y 0 (n - 1) && (decide (2 ≤ y - x) && ((x != 0) || (y != n - 1)))) = false := by
  have hx := inR_out h1
  cases h3 : inR y 0 (n - 1) with
  | false => rfl
  | true =>
    have hy := inR_out h3
    by_cases g : 2 ≤ y - x
    · rw [inR_yes (by omega) (by omega)] at h2; cases h2
    · rw [decide_eq_false g]; rfl
theorem diag_high {n x y : Int} (h1 : inR x 0 (n - 1) = true) (h2 : inR y (x + 2) (n - 1) = true) : (inR y 0 (n - 1) && (decide (2 ≤ y - x) && ((x != 0) || (y != n - 1)))) = ((x != 0) || (y != n - 1)) := by
  have hx := inR_out h1
  have hy := inR_out h2
  rw [inR_yes (by omega) (by omega), decide_eq_true (show 2 ≤ y - x by omega)]; rfl

set_option maxRecDepth 100000 in
set_option maxHeartbeats 4000000 in
theorem isTriS (n : Int) (A : Option Addr) (c L : Nat) (zss : List (List Int)) (w : World) (hL : zss.length = L) (hL2 : L ≤ 1048576) (ha : RdM w A zss) : Calls Try.prog 46 #[.int .i64 n, .slice A L c] w fun e w' => e = .returned (.bool (tri n zss)) ∧ Below w.heap.size w w' := by
  have HA := Lib.hid ha
  have HL := Lib.hid hL
  clear ha hL
  cases i1 : inR n 2 10 with
  | false =>
    have HF : Hid (tri n zss = false) := tri_out i1
    go_enter Try.func46, Try.ntmps46
    go_wp2_with (go_at_call 59; refine (inC _ _ _ _).mono ?_; rintro e w' ⟨rfl, rfl⟩)
    go_ret
    exact ⟨by rw [HF.out]; rfl, Below.refl _ _⟩
  | true =>
    obtain ⟨n2, n10⟩ := inR_out i1
    by_cases hlen : (L : Int) = triL n
    · have HLE := Lib.hid hlen
      have HI1 := Lib.hid i1
      by_cases hd1 : 0 < n - 3
      · have hd2 : (L : Int) = n - 3 := by rw [hlen]; unfold triL; rw [if_pos hd1]
        have e1 : ((L : Int) != n - 3) = false := by rw [bne_eq_false_iff_eq]; exact hd2
        have hL7 : L ≤ 7 := by omega
        have kn : IntKind.i64.wrap (n - 1) = n - 1 := IntWalk.i64_in _ ⟨by omega, by omega⟩
        have HK := Lib.hid kn
        clear hlen hd2 kn
        go_enter Try.func46, Try.ntmps46
        go_wp2_with (go_at_call 59; refine (inC _ _ _ _).mono ?_; rintro e w' ⟨rfl, rfl⟩)
        clear e1 i1
        go_loopw [5, 6] (fun idx _ wr => ∃ k : Nat, k ≤ L ∧ idx = .int .i64 (k : Int) ∧ Hid ((List.range k).all (triR n zss) = true) ∧ Hid (∃ m, wr = w.drewN m)) (fun idx _ _ => L - (intOf idx).toNat)
        case atStart => exact ⟨0, by omega, rfl, rfl, 0, rfl⟩
        case round =>
          obtain ⟨k, hk, rfl, HT, HQ⟩ := hrel
          obtain ⟨wo, hwo⟩ : ∃ wo : World, wo = wr := ⟨_, rfl⟩
          rw [← hwo] at HQ ⊢
          clear hwo
          by_cases hlt : k < L
          · have hkl : k < zss.length := by rw [HL.out]; exact hlt
            have hlt' : (k : Int) < (L : Int) := by omega
            have hk0' : (0 : Int) ≤ (k : Int) := by omega
            obtain ⟨b, o, rfl⟩ := HA.out.form (by rw [HL.out]; omega)
            obtain ⟨Ak, ck, hck', hmk, hrk⟩ := HA.out.get k hkl
            have hck := hck' _ (dq_b HQ.out)
            have HCk := Lib.hid hck'
            have HRk := Lib.hid hrk
            have HWn := Lib.hid (fun x a b w => inC x a b w)
            obtain ⟨m, hm⟩ : ∃ m, m = (row zss k).length := ⟨_, rfl⟩
            rw [← hm] at hck hmk HCk
            have HMm := Lib.hid hm
            unfold maxLen at hmk
            clear hrk hck' hm
            by_cases hm2 : m = 2
            · subst hm2
              have HZk : Hid ((row zss k).length = 2) := HMm.out.symm
              obtain ⟨pk, ok, rfl, h0, h1⟩ := Two.of (HRk.out.keep (dq_b HQ.out)) HZk.out
              have hDV := diagB_at (n := n) HZk.out
              obtain ⟨x, hx⟩ : ∃ x, x = (row zss k).getD 0 0 := ⟨_, rfl⟩
              obtain ⟨y, hy⟩ : ∃ y, y = (row zss k).getD 1 0 := ⟨_, rfl⟩
              rw [← hx] at h0 hDV
              rw [← hy] at h1 hDV
              have HX := Lib.hid hx
              have HY := Lib.hid hy
              clear hx hy
              cases i2 : inR x 0 (n - 1) with
              | false =>
                have HF : Hid (tri n zss = false) := tri_fail hkl (triR_diag (by rw [hDV, i2]; rfl))
                have kn := HK.out
                clear hDV
                go_wp2_with fail
                go_quiet ((go_at_call 59; exact quiet_left (HWn.out _ _ _ _)))
                go_wp2
                go_ret
                exact ⟨by rw [HF.out]; rfl, below_drewN (dq_b HQ.out) _⟩
              | true =>
                rw [i2, Bool.true_and] at hDV
                have hxr := inR_out i2
                have hx0 : 0 ≤ x := hxr.1
                have hx9 : x ≤ n - 1 := hxr.2
                have k2 : IntKind.i64.wrap (x + 2) = x + 2 := IntWalk.i64_in _ ⟨by omega, by omega⟩
                cases i3 : inR y (x + 2) (n - 1) with
                | false =>
                  have HF : Hid (tri n zss = false) := tri_fail hkl (triR_diag (by rw [hDV, diag_low i2 i3]))
                  have kn := HK.out
                  clear hDV hxr
                  go_wp2_with fail
                  go_quiet ((go_at_call 59; exact quiet_left (HWn.out _ _ _ _)))
                  go_wp2
                  go_ret
                  exact ⟨by rw [HF.out]; rfl, below_drewN (dq_b HQ.out) _⟩
                | true =>
                  rw [diag_high i2 i3] at hDV
                  by_cases hbad : x = 0 ∧ y = n - 1
                  · have d1 : (x == 0) = true := by simpa using hbad.1
                    have d2 : (y == n - 1) = true := by simpa using hbad.2
                    have HF : Hid (tri n zss = false) := tri_fail hkl (triR_diag (by rw [hDV]; simp [hbad.1, hbad.2]))
                    have kn := HK.out
                    clear hDV hxr hbad
                    go_wp2_with fail
                    go_quiet ((go_at_call 59; exact quiet_left (HWn.out _ _ _ _)))
                    go_wp2
                    go_ret
                    exact ⟨by rw [HF.out]; rfl, below_drewN (dq_b HQ.out) _⟩
                  · have HDk : Hid (diagB n (row zss k) = true) := by
                      show _ = _
                      rw [hDV]
                      by_cases hx0 : x = 0
                      · have hy0 : y ≠ n - 1 := fun h => hbad ⟨hx0, h⟩
                        simp [hy0]
                      · simp [hx0]
                    have kn := HK.out
                    clear hDV hxr
                    by_cases hxz : x = 0
                    · have d1 : (x == 0) = true := by simpa using hxz
                      have d2 : (y == n - 1) = false := by rw [beq_eq_false_iff_ne]; exact fun h => hbad ⟨hxz, h⟩
                      clear hbad hxz
                      go_wp2_with fail
                      go_quiet ((go_at_call 59; exact quiet_left (HWn.out _ _ _ _)))
                      have HQ6 : Hid (∃ m, wo.drewN nq = w.drewN m) := dq HQ.out nq
                      clear h0 h1 hck kn k2 d1 d2
                      generalize wo.drewN nq = w6 at HQ6 ⊢
                      by_cases hk0 : k = 0
                      · subst hk0
                        have HT2 : Hid ((List.range 1).all (triR n zss) = true) := all_succ HT.out (triR_ok HDk.out (.inl rfl) rfl)
                        go_wp2_with fail
                        go_quiet (fail)
                        have HQ8 : Hid (∃ m, w6.drewN nq = w.drewN m) := dq HQ6.out nq
                        generalize w6.drewN nq = w8 at HQ8 ⊢
                        go_wp2_with fail
                        refine wp_loop_rounds 1 ?_
                        rw [rounds_succ]
                        go_wp2
                        go_roundw
                        case rel => exact ⟨1, by omega, rfl, HT2.out, HQ8.out⟩
                        case measure => simp [intOf]; omega
                      · have hk1 : 0 < k := by omega
                        obtain ⟨Ap, cp, hcp', hmp, hrp⟩ := HA.out.get (k - 1) (by omega)
                        have hpl := triR_two (all_get HT.out (k - 1) (by omega))
                        rw [hpl] at hcp'
                        have HRp := Lib.hid hrp
                        have HPl := Lib.hid hpl
                        have HCp := Lib.hid hcp'
                        obtain ⟨pp, op, rfl, _, _⟩ := Two.of (HRp.out.keep (dq_b HQ6.out)) HPl.out
                        have hcp := hcp' _ (dq_b HQ6.out)
                        have hck := HCk.out _ (dq_b HQ6.out)
                        have HB := Lib.hid (fun w' (hb : Below w.heap.size w w') => beforeS _ _ _ _ _ _ cp ck w' (Two.of (HRp.out.keep hb) HPl.out) (Two.of (HRk.out.keep hb) HZk.out))
                        have kk1 : ((k : Int) - 1) = ((k - 1 : Nat) : Int) := by omega
                        have kk2 : IntKind.i64.wrap ((k : Int) - 1) = ((k - 1 : Nat) : Int) := by rw [kk1]; exact IntWalk.i64_in _ ⟨by omega, by omega⟩
                        have kk3 : ((k - 1 : Nat) : Int) < (L : Int) := by omega
                        have kk4 : (0 : Int) ≤ ((k - 1 : Nat) : Int) := by omega
                        have kk5 : k - 1 < L := by omega
                        have HBf : Hid (befB ((row zss (k - 1)).getD 0 0) ((row zss (k - 1)).getD 1 0) ((row zss k).getD 0 0) ((row zss k).getD 1 0) = befR (row zss (k - 1)) (row zss k)) := rfl
                        rw [HBf.out] at HB
                        clear hrp hpl hcp' hmp HBf kk1
                        cases hbf : befR (row zss (k - 1)) (row zss k) with
                        | false =>
                          rw [hbf] at HB
                          have HF : Hid (tri n zss = false) := tri_fail hkl (triR_bef hk0 hbf)
                          clear hbf
                          go_wp2_with fail
                          go_quiet ((go_at_call 79; exact Calls.quiet_of (HB.out _ (below_drewN (dq_b HQ6.out) _))))
                          clear kk2
                          go_wp2
                          go_ret
                          exact ⟨by rw [HF.out]; rfl, below_drewN (dq_b HQ6.out) _⟩
                        | true =>
                          rw [hbf] at HB
                          have HBk := Lib.hid hbf
                          clear hbf
                          go_wp2_with fail
                          go_quiet ((go_at_call 79; exact Calls.quiet_of (HB.out _ (below_drewN (dq_b HQ6.out) _))))
                          have HQ8 : Hid (∃ m, w6.drewN nq = w.drewN m) := dq HQ6.out nq
                          clear kk2 hcp hck
                          generalize w6.drewN nq = w8 at HQ8 ⊢
                          go_wp2_with fail
                          go_loopw [6] (fun idx wz => ∃ j : Nat, j ≤ k ∧ idx = .int .i64 (j : Int) ∧ Hid (((List.range j).all fun j => !crR (row zss j) (row zss k)) = true) ∧ Hid (∃ m, wz = w8.drewN m)) (fun idx _ => k - (intOf idx).toNat)
                          case atStart => exact ⟨0, by omega, rfl, rfl, 0, rfl⟩
                          case round =>
                            obtain ⟨j, hj, rfl, HC, HQz⟩ := hrel
                            by_cases hj2 : j < k
                            · obtain ⟨Aj, cj, hcj', hmj, hrj⟩ := HA.out.get j (by rw [HL.out]; omega)
                              have hjl := triR_two (all_get HT.out j hj2)
                              rw [hjl] at hcj'
                              have HQa := Lib.hid (dq_t HQ8.out HQz.out)
                              obtain ⟨pj, oj, rfl, _, _⟩ := Two.of (hrj.keep (dq_b HQa.out)) hjl
                              have hcj := hcj' _ (dq_b HQa.out)
                              have hck := HCk.out _ (dq_b HQa.out)
                              have HX2 := Lib.hid (fun w' (hb : Below w.heap.size w w') => crossS _ _ _ _ _ _ cj ck w' (Two.of (hrj.keep hb) hjl) (Two.of (HRk.out.keep hb) HZk.out))
                              have HCR : Hid (crB ((row zss j).getD 0 0) ((row zss j).getD 1 0) ((row zss k).getD 0 0) ((row zss k).getD 1 0) = crR (row zss j) (row zss k)) := rfl
                              rw [HCR.out] at HX2
                              have jj1 : (j : Int) < (L : Int) := by omega
                              have jj2 : (0 : Int) ≤ (j : Int) := by omega
                              have jj3 : (j : Int) < (k : Int) := by omega
                              clear hcj' hrj hjl hmj HCR
                              cases hcr : crR (row zss j) (row zss k) with
                              | true =>
                                rw [hcr] at HX2
                                have HF : Hid (tri n zss = false) := tri_fail hkl (triR_cr hj2 hcr)
                                clear hcr
                                go_wp2_with fail
                                go_quiet ((go_at_call 80; exact Calls.quiet_of (HX2.out _ (below_drewN (dq_b HQa.out) _))))
                                go_wp2
                                go_ret
                                exact ⟨by rw [HF.out]; rfl, below_drewN (dq_b HQa.out) _⟩
                              | false =>
                                rw [hcr] at HX2
                                have HC2 : Hid (((List.range (j + 1)).all fun j => !crR (row zss j) (row zss k)) = true) := all_succ HC.out (by rw [hcr]; rfl)
                                clear hcr
                                go_wp2_with fail
                                go_quiet ((go_at_call 80; exact Calls.quiet_of (HX2.out _ (below_drewN (dq_b HQa.out) _))))
                                go_wp2
                                go_roundw
                                case rel => exact ⟨j + 1, by omega, by go_num, HC2.out, dq HQz.out _⟩
                                case measure => simp [intOf]; omega
                            · obtain rfl : j = k := by omega
                              have HT2 : Hid ((List.range (j + 1)).all (triR n zss) = true) := all_succ HT.out (triR_ok HDk.out (.inr HBk.out) HC.out)
                              go_wp2
                              go_roundw
                              case rel => exact ⟨j + 1, by omega, by go_num, HT2.out, dq_t HQ8.out HQz.out⟩
                              case measure => simp [intOf]; omega
                    · have d1 : (x == 0) = false := by simpa using hxz
                      clear hbad hxz
                      go_wp2_with fail
                      go_quiet ((go_at_call 59; exact quiet_left (HWn.out _ _ _ _)))
                      have HQ6 : Hid (∃ m, wo.drewN nq = w.drewN m) := dq HQ.out nq
                      clear h0 h1 hck kn k2 d1
                      generalize wo.drewN nq = w6 at HQ6 ⊢
                      by_cases hk0 : k = 0
                      · subst hk0
                        have HT2 : Hid ((List.range 1).all (triR n zss) = true) := all_succ HT.out (triR_ok HDk.out (.inl rfl) rfl)
                        go_wp2_with fail
                        go_quiet (fail)
                        have HQ8 : Hid (∃ m, w6.drewN nq = w.drewN m) := dq HQ6.out nq
                        generalize w6.drewN nq = w8 at HQ8 ⊢
                        go_wp2_with fail
                        refine wp_loop_rounds 1 ?_
                        rw [rounds_succ]
                        go_wp2
                        go_roundw
                        case rel => exact ⟨1, by omega, rfl, HT2.out, HQ8.out⟩
                        case measure => simp [intOf]; omega
                      · have hk1 : 0 < k := by omega
                        obtain ⟨Ap, cp, hcp', hmp, hrp⟩ := HA.out.get (k - 1) (by omega)
                        have hpl := triR_two (all_get HT.out (k - 1) (by omega))
                        rw [hpl] at hcp'
                        have HRp := Lib.hid hrp
                        have HPl := Lib.hid hpl
                        have HCp := Lib.hid hcp'
                        obtain ⟨pp, op, rfl, _, _⟩ := Two.of (HRp.out.keep (dq_b HQ6.out)) HPl.out
                        have hcp := hcp' _ (dq_b HQ6.out)
                        have hck := HCk.out _ (dq_b HQ6.out)
                        have HB := Lib.hid (fun w' (hb : Below w.heap.size w w') => beforeS _ _ _ _ _ _ cp ck w' (Two.of (HRp.out.keep hb) HPl.out) (Two.of (HRk.out.keep hb) HZk.out))
                        have kk1 : ((k : Int) - 1) = ((k - 1 : Nat) : Int) := by omega
                        have kk2 : IntKind.i64.wrap ((k : Int) - 1) = ((k - 1 : Nat) : Int) := by rw [kk1]; exact IntWalk.i64_in _ ⟨by omega, by omega⟩
                        have kk3 : ((k - 1 : Nat) : Int) < (L : Int) := by omega
                        have kk4 : (0 : Int) ≤ ((k - 1 : Nat) : Int) := by omega
                        have kk5 : k - 1 < L := by omega
                        have HBf : Hid (befB ((row zss (k - 1)).getD 0 0) ((row zss (k - 1)).getD 1 0) ((row zss k).getD 0 0) ((row zss k).getD 1 0) = befR (row zss (k - 1)) (row zss k)) := rfl
                        rw [HBf.out] at HB
                        clear hrp hpl hcp' hmp HBf kk1
                        cases hbf : befR (row zss (k - 1)) (row zss k) with
                        | false =>
                          rw [hbf] at HB
                          have HF : Hid (tri n zss = false) := tri_fail hkl (triR_bef hk0 hbf)
                          clear hbf
                          go_wp2_with fail
                          go_quiet ((go_at_call 79; exact Calls.quiet_of (HB.out _ (below_drewN (dq_b HQ6.out) _))))
                          clear kk2
                          go_wp2
                          go_ret
                          exact ⟨by rw [HF.out]; rfl, below_drewN (dq_b HQ6.out) _⟩
                        | true =>
                          rw [hbf] at HB
                          have HBk := Lib.hid hbf
                          clear hbf
                          go_wp2_with fail
                          go_quiet ((go_at_call 79; exact Calls.quiet_of (HB.out _ (below_drewN (dq_b HQ6.out) _))))
                          have HQ8 : Hid (∃ m, w6.drewN nq = w.drewN m) := dq HQ6.out nq
                          clear kk2 hcp hck
                          generalize w6.drewN nq = w8 at HQ8 ⊢
                          go_wp2_with fail
                          go_loopw [6] (fun idx wz => ∃ j : Nat, j ≤ k ∧ idx = .int .i64 (j : Int) ∧ Hid (((List.range j).all fun j => !crR (row zss j) (row zss k)) = true) ∧ Hid (∃ m, wz = w8.drewN m)) (fun idx _ => k - (intOf idx).toNat)
                          case atStart => exact ⟨0, by omega, rfl, rfl, 0, rfl⟩
                          case round =>
                            obtain ⟨j, hj, rfl, HC, HQz⟩ := hrel
                            by_cases hj2 : j < k
                            · obtain ⟨Aj, cj, hcj', hmj, hrj⟩ := HA.out.get j (by rw [HL.out]; omega)
                              have hjl := triR_two (all_get HT.out j hj2)
                              rw [hjl] at hcj'
                              have HQa := Lib.hid (dq_t HQ8.out HQz.out)
                              obtain ⟨pj, oj, rfl, _, _⟩ := Two.of (hrj.keep (dq_b HQa.out)) hjl
                              have hcj := hcj' _ (dq_b HQa.out)
                              have hck := HCk.out _ (dq_b HQa.out)
                              have HX2 := Lib.hid (fun w' (hb : Below w.heap.size w w') => crossS _ _ _ _ _ _ cj ck w' (Two.of (hrj.keep hb) hjl) (Two.of (HRk.out.keep hb) HZk.out))
                              have HCR : Hid (crB ((row zss j).getD 0 0) ((row zss j).getD 1 0) ((row zss k).getD 0 0) ((row zss k).getD 1 0) = crR (row zss j) (row zss k)) := rfl
                              rw [HCR.out] at HX2
                              have jj1 : (j : Int) < (L : Int) := by omega
                              have jj2 : (0 : Int) ≤ (j : Int) := by omega
                              have jj3 : (j : Int) < (k : Int) := by omega
                              clear hcj' hrj hjl hmj HCR
                              cases hcr : crR (row zss j) (row zss k) with
                              | true =>
                                rw [hcr] at HX2
                                have HF : Hid (tri n zss = false) := tri_fail hkl (triR_cr hj2 hcr)
                                clear hcr
                                go_wp2_with fail
                                go_quiet ((go_at_call 80; exact Calls.quiet_of (HX2.out _ (below_drewN (dq_b HQa.out) _))))
                                go_wp2
                                go_ret
                                exact ⟨by rw [HF.out]; rfl, below_drewN (dq_b HQa.out) _⟩
                              | false =>
                                rw [hcr] at HX2
                                have HC2 : Hid (((List.range (j + 1)).all fun j => !crR (row zss j) (row zss k)) = true) := all_succ HC.out (by rw [hcr]; rfl)
                                clear hcr
                                go_wp2_with fail
                                go_quiet ((go_at_call 80; exact Calls.quiet_of (HX2.out _ (below_drewN (dq_b HQa.out) _))))
                                go_wp2
                                go_roundw
                                case rel => exact ⟨j + 1, by omega, by go_num, HC2.out, dq HQz.out _⟩
                                case measure => simp [intOf]; omega
                            · obtain rfl : j = k := by omega
                              have HT2 : Hid ((List.range (j + 1)).all (triR n zss) = true) := all_succ HT.out (triR_ok HDk.out (.inr HBk.out) HC.out)
                              go_wp2
                              go_roundw
                              case rel => exact ⟨j + 1, by omega, by go_num, HT2.out, dq_t HQ8.out HQz.out⟩
                              case measure => simp [intOf]; omega
            · have e2 : ((m : Int) != 2) = true := by rw [bne_iff_ne]; omega
              have HF : Hid (tri n zss = false) := tri_fail hkl (triR_diag (by simp only [diagB, decide_eq_false (show ¬ (row zss k).length = 2 by have := HMm.out; omega), Bool.false_and]))
              have kn := HK.out
              go_wp2_with fail
              go_quiet ((go_at_call 59; exact quiet_left (HWn.out _ _ _ _)))
              go_wp2
              go_ret
              exact ⟨by rw [HF.out]; rfl, below_drewN (dq_b HQ.out) _⟩
          · obtain rfl : k = L := by omega
            have HF : Hid (tri n zss = true) := tri_done HI1.out (by rw [HL.out]; exact HLE.out) (by rw [HL.out]; exact HT.out)
            go_wp2
            go_ret
            exact ⟨by rw [HF.out]; rfl, dq_b HQ.out⟩
      · have hd2 : (L : Int) = 0 := by rw [hlen]; unfold triL; rw [if_neg hd1]
        have hL0 : L = 0 := by omega
        subst hL0
        have HF : Hid (tri n zss = true) := tri_done i1 (by rw [HL.out]; exact hlen) (by rw [HL.out]; rfl)
        clear hlen hd2
        go_enter Try.func46, Try.ntmps46
        go_wp2_with (go_at_call 59; refine (inC _ _ _ _).mono ?_; rintro e w' ⟨rfl, rfl⟩)
        refine wp_loop_rounds 1 ?_
        rw [rounds_succ]
        go_wp2
        go_ret
        exact ⟨by rw [HF.out]; rfl, Below.refl _ _⟩
    · have HF : Hid (tri n zss = false) := tri_len (by rw [HL.out]; exact hlen)
      by_cases hd1 : 0 < n - 3
      · have e1 : ((L : Int) != n - 3) = true := by rw [bne_iff_ne]; unfold triL at hlen; rw [if_pos hd1] at hlen; exact hlen
        clear hlen
        go_enter Try.func46, Try.ntmps46
        go_wp2_with (go_at_call 59; refine (inC _ _ _ _).mono ?_; rintro e w' ⟨rfl, rfl⟩)
        go_ret
        exact ⟨by rw [HF.out]; rfl, Below.refl _ _⟩
      · have e1 : ((L : Int) != 0) = true := by rw [bne_iff_ne]; unfold triL at hlen; rw [if_neg hd1] at hlen; exact hlen
        clear hlen
        go_enter Try.func46, Try.ntmps46
        go_wp2_with (go_at_call 59; refine (inC _ _ _ _).mono ?_; rintro e w' ⟨rfl, rfl⟩)
        go_ret
        exact ⟨by rw [HF.out]; rfl, Below.refl _ _⟩
end Go.Proofs.Ythbfockobnfomaa
