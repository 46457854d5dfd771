/-
  IsPlane of both packages, walked.
-/
import Derived.Test.YtndehfkamfmmeaaOps
import Derived.Test.YtndehfkamfmmeaaIntArg
import Derived.Test.YtndehfkamfmmeaaPlP
import Derived.Test.YtndehfkamfmmeaaPlH
namespace Go.Proofs.Ytndehfkamfmmeaa
open Go.RowKit
theorem plane_long {p : List Int} (h : 9 < p.length) : plane p = false := by
  simp only [plane, decide_eq_false (show ¬ p.length ≤ 9 by omega), Bool.false_and]
theorem plane_nil : plane [] = false := rfl
theorem plane_head {p : List Int} (h : p.getD 0 0 ≠ -1) : plane p = false := by
  cases p with
  | nil => rfl
  | cons x r => have hx : x ≠ -1 := by simpa using h
                simp [plane, plRow, hx]
theorem plane_ok {p : List Int} (h : 0 < p.length) (h9 : p.length ≤ 9) (hx : p.getD 0 0 = -1) : plane p = plGo 1 [0] (p.drop 1) := by
  cases p with
  | nil => cases h
  | cons x r => have hx : x = -1 := by simpa using hx
                subst hx
                simp only [plane, plRow, decide_eq_true h9, decide_true, Bool.true_and, List.drop_one, List.tail_cons]
theorem chain_root {p : List Int} (hx : p.getD 0 0 = -1) : Chain p [0] := ⟨hx, by simp [top], trivial⟩

set_option maxRecDepth 100000 in
set_option maxHeartbeats 1000000 in
theorem isPlaneI (A : Option Addr) (n c : Nat) (p : List Int) (w : World) (hl : p.length = n) (ha : Rd .i64 w A p) (hn : n ≤ 1048576) : Calls Try.prog 16 #[.slice A n c] w fun e w' => e = .returned (.bool (plane p)) ∧ w = w' := by
  by_cases hin : 1 ≤ n ∧ n ≤ 9
  · obtain ⟨b, o, rfl⟩ := ha.form (by omega)
    have hc0 := ha.at_ 0 (by omega)
    rw [Nat.add_zero] at hc0
    have i1 := inR_yes (x := (n : Int)) (lo := 1) (hi := 9) (by omega) (by omega)
    by_cases hx : p.getD 0 0 = -1
    · have HV := Lib.hid (plane_ok (by omega) (by omega) hx)
      have HC := Lib.hid (chain_root hx)
      obtain ⟨x0, hx0⟩ : ∃ x0, x0 = p.getD 0 0 := ⟨_, rfl⟩
      rw [← hx0] at hc0 hx
      have ex : (x0 != -1) = false := by simpa using hx
      have HA := Lib.hid ha
      have HL := Lib.hid hl
      obtain ⟨h1, h9⟩ := hin
      clear hx0 ha hl hx
      go_enter Try.func16, Try.ntmps16
      go_wp2_with (go_at_call 63; refine (withinC _ _ _ _).mono ?_; rintro e w' ⟨rfl, rfl⟩)
      go_loop [3, 4] (fun i _ => ∃ (k : Nat) (s : List Nat), 1 ≤ k ∧ k ≤ n ∧ i = .int .i64 (k : Int) ∧ Hid (Chain p s) ∧ Hid (top s = (k : Int) - 1) ∧ Hid (plane p = plGo k s (p.drop k))) (fun i _ => n - (intOf i).toNat)
      case atStart => exact ⟨1, [0], by omega, by omega, rfl, HC.out, rfl, HV.out⟩
      case round =>
        obtain ⟨k, s, hk1, hk, rfl, HCs, HT, HG⟩ := hrel
        by_cases hlt : k < n
        · have hck := HA.out.at_ k (by rw [HL.out]; exact hlt)
          have hdk := drop_one p k (by rw [HL.out]; exact hlt)
          obtain ⟨x, hxk⟩ : ∃ x, x = p.getD k 0 := ⟨_, rfl⟩
          rw [← hxk] at hck hdk
          have HG2 : Hid (plane p = (!(popTo x s).isEmpty && plGo (k + 1) (k :: popTo x s) (p.drop (k + 1)))) := by show _ = _; rw [HG.out, hdk, plGo_cons]
          have HX := Lib.hid hxk
          have hlt' : (k : Int) < (n : Int) := by omega
          clear hdk hxk HG
          go_wp2_with fail
          go_loop [4] (fun v => ∃ r : List Nat, v = .int .i64 (top r) ∧ top r < (k : Int) ∧ Hid (Chain p r) ∧ Hid (popTo x r = popTo x s)) (fun v => (intOf v + 1).toNat)
          case atStart => exact ⟨s, by rw [HT.out], by rw [HT.out]; omega, HCs.out, rfl⟩
          case round =>
            obtain ⟨r, rfl, htr, HCr, HP⟩ := hrel
            have hlo := top_lo r
            cases r with
            | nil =>
              have HF : Hid (plane p = false) := by show _ = _; rw [HG2.out, ← HP.out]; rfl
              rw [show top [] = -1 from rfl] at htr ⊢
              clear hlo
              go_wp2
              go_ret
              exact ⟨by rw [HF.out]; rfl, rfl⟩
            | cons a q =>
              rw [top_cons] at htr hlo ⊢
              have hak : a < k := by omega
              have hca := HA.out.at_ a (by rw [HL.out]; omega)
              rw [HCr.out.1] at hca
              have htq := HCr.out.2.1
              have hqlo := top_lo q
              by_cases hax : (a : Int) = x
              · have e1 : ((a : Int) != x) = false := by simpa using hax
                have HC2 : Hid (Chain p (k :: popTo x s)) := chain_push HCs.out (by rw [HT.out]; omega) HX.out.symm (by rw [← HP.out, pop_cons_eq hax]; simp)
                have HV2 : Hid (plane p = plGo (k + 1) (k :: popTo x s) (p.drop (k + 1))) := by
                  show _ = _
                  rw [HG2.out, ← HP.out, pop_cons_eq hax]; rfl
                clear hax htq hqlo
                go_wp2
                go_round
                case rel => exact ⟨k + 1, _, by omega, by omega, by go_num, HC2, by show (k : Int) = _; omega, HV2⟩
                case measure => simp [intOf]; omega
              · have e1 : ((a : Int) != x) = true := by simpa using hax
                have HP2 : Hid (popTo x q = popTo x s) := by show _ = _; rw [← HP.out, pop_cons_ne hax]
                have HCq := Lib.hid HCr.out.2.2
                obtain ⟨y, hy⟩ : ∃ y, y = top q := ⟨_, rfl⟩
                rw [← hy] at hca htq hqlo
                have HY := Lib.hid hy
                clear hax hy
                go_wp2
                go_round
                case rel => exact ⟨q, by rw [HY.out], by rw [← HY.out]; omega, HCq.out, HP2⟩
                case measure => simp [intOf]; omega
        · obtain rfl : k = n := by omega
          have HF : Hid (plane p = true) := by
            show _ = _
            rw [HG.out, List.drop_of_length_le (by rw [HL.out]; exact Nat.le_refl _)]; rfl
          go_wp2
          go_ret
          exact ⟨by rw [HF.out]; rfl, rfl⟩
    · have HF := Lib.hid (plane_head hx)
      obtain ⟨x0, hx0⟩ : ∃ x0, x0 = p.getD 0 0 := ⟨_, rfl⟩
      rw [← hx0] at hc0 hx
      have ex : (x0 != -1) = true := by simpa using hx
      obtain ⟨h1, h9⟩ := hin
      clear hx0 ha hl hx
      go_enter Try.func16, Try.ntmps16
      go_wp2_with (go_at_call 63; refine (withinC _ _ _ _).mono ?_; rintro e w' ⟨rfl, rfl⟩)
      go_ret
      exact ⟨by rw [HF.out]; rfl, rfl⟩
  · have HF : Hid (plane p = false) := by
      show _ = _
      by_cases h0 : n = 0
      · subst h0
        rw [List.eq_nil_of_length_eq_zero hl]; rfl
      · exact plane_long (by omega)
    have i1 := inR_no (x := (n : Int)) (lo := 1) (hi := 9) (by omega)
    clear hl ha hin
    go_enter Try.func16, Try.ntmps16
    go_wp2_with (go_at_call 63; refine (withinC _ _ _ _).mono ?_; rintro e w' ⟨rfl, rfl⟩)
    go_ret
    exact ⟨by rw [HF.out]; rfl, rfl⟩
theorem plane_len_no {p : List Int} (h : ¬ (1 ≤ p.length ∧ p.length ≤ 9)) : plane p = false := by
  by_cases h0 : p.length = 0
  · rw [List.eq_nil_of_length_eq_zero h0]; rfl
  · exact plane_long (by omega)
theorem plane_split (p : List Int) : plane p = (decide (p.length ≤ 9) && plRow p) := rfl
theorem plRow_cons (x : Int) (r : List Int) : plRow (x :: r) = (decide (x = -1) && plGo 1 [0] r) := rfl
theorem pop_range {p : List Int} {x : Int} {s : List Nat} (h : Chain p s) (hx : x < 0 ∨ top s < x) : popTo x s = [] := by
  rw [pop_empty]
  intro a ha e
  have := chain_lt h a ha
  omega

set_option maxRecDepth 100000 in
set_option maxHeartbeats 1000000 in
theorem isPlaneS (A : Option Addr) (n c : Nat) (p : List Int) (w : World) (hl : p.length = n) (ha : Rd .i64 w A p) (hn : n ≤ 1048576) : Calls Try.prog 14 #[.slice A n c] w fun e w' => e = .returned (.bool (plane p)) ∧ w = w' := by
  have HA := Lib.hid ha
  have HL := Lib.hid hl
  clear ha hl
  go_enter Try.func14, Try.ntmps14
  go_wp2_with fail
  go_loop [3, 4, 5] (fun i _ _ => ∃ (k : Nat) (s : List Nat), k ≤ n ∧ i = .int .i64 (k : Int) ∧ (k = 0 → s = []) ∧ (1 ≤ k → s ≠ []) ∧ Hid (Chain p s) ∧ Hid (top s = (k : Int) - 1) ∧ Hid (1 ≤ k → plRow p = plGo k s (p.drop k))) (fun i _ _ => n - (intOf i).toNat)
  case atStart => exact ⟨0, [], by omega, rfl, fun _ => rfl, by omega, trivial, rfl, fun h => absurd h (by omega)⟩
  case round =>
    obtain ⟨k, s, hk, rfl, hs0, hs1, HCs, HT, HG⟩ := hrel
    by_cases hlt : k < n
    · obtain ⟨b, o, rfl⟩ := HA.out.form (by rw [HL.out]; omega)
      have hck := HA.out.at_ k (by rw [HL.out]; exact hlt)
      have hdk := drop_one p k (by rw [HL.out]; exact hlt)
      by_cases hk0 : k = 0
      · subst hk0
        rw [Nat.add_zero] at hck
        clear hs0 hs1
        by_cases hx : p.getD 0 0 = -1
        · have HC := Lib.hid (chain_root hx)
          have HG2 : Hid (1 ≤ 1 → plRow p = plGo 1 [0] (p.drop 1)) := by
            intro _
            have : p = -1 :: p.drop 1 := by rw [List.drop_zero, hx] at hdk; exact hdk
            rw [this, plRow_cons]; rfl
          obtain ⟨x0, hx0⟩ : ∃ x0, x0 = p.getD 0 0 := ⟨_, rfl⟩
          rw [← hx0] at hck hx
          have ex : (x0 != -1) = false := by simpa using hx
          have ez : (((0 : Nat) : Int) == 0) = true := rfl
          clear hx0 hx hdk HG
          go_wp2_with fail
          refine wp_loop_rounds 1 ?_
          rw [rounds_succ]
          go_wp2_with fail
          go_round
          case rel => exact ⟨1, [0], by omega, rfl, by omega, by simp, HC.out, rfl, HG2.out⟩
          case measure => simp [intOf]; omega
        · have HF := Lib.hid (plane_head hx)
          obtain ⟨x0, hx0⟩ : ∃ x0, x0 = p.getD 0 0 := ⟨_, rfl⟩
          rw [← hx0] at hck hx
          have ex : (x0 != -1) = true := by simpa using hx
          clear hx0 hx hdk HG
          go_wp2_with fail
          go_ret
          exact ⟨by rw [HF.out]; rfl, rfl⟩
      · have hk1 : 1 ≤ k := by omega
        have ez : ((k : Int) == 0) = false := by rw [beq_eq_false_iff_ne]; omega
        obtain ⟨x, hxk⟩ : ∃ x, x = p.getD k 0 := ⟨_, rfl⟩
        rw [← hxk] at hck hdk
        have HG2 : Hid (plRow p = (!(popTo x s).isEmpty && plGo (k + 1) (k :: popTo x s) (p.drop (k + 1)))) := by show _ = _; rw [HG.out hk1, hdk, plGo_cons]
        have HX := Lib.hid hxk
        have hlt' : (k : Int) < (n : Int) := by omega
        clear hdk hxk HG hs0 hs1
        by_cases hxr : 0 ≤ x ∧ x ≤ (k : Int) - 1
        · have i1 := inR_yes hxr.1 hxr.2
          have hk0' : 0 < k := by omega
          clear hxr
          go_wp2_with (go_at_call 62; refine (inC _ _ _ _).mono ?_; rintro e w' ⟨rfl, rfl⟩)
          go_loop [4, 5] (fun f v => ∃ (r : List Nat) (B : Bool), f = .bool B ∧ v = .int .i64 (top r) ∧ top r < (k : Int) ∧ Hid (Chain p r) ∧ Hid ((B || !(popTo x r).isEmpty) = !(popTo x s).isEmpty)) (fun _ v => (intOf v + 1).toNat)
          case atStart => exact ⟨s, false, rfl, by rw [HT.out], by rw [HT.out]; omega, HCs.out, rfl⟩
          case round =>
            obtain ⟨r, B, rfl, rfl, htr, HCr, HP⟩ := hrel
            have hlo := top_lo r
            cases r with
            | nil =>
              rw [show top [] = -1 from rfl] at htr ⊢
              cases B with
              | false =>
                have HF : Hid (plane p = false) := by
                  show _ = _
                  have := HP.out
                  rw [plane_split, HG2.out, ← this]; simp [popTo]
                clear hlo
                go_wp2
                go_ret
                exact ⟨by rw [HF.out]; rfl, rfl⟩
              | true =>
                have hne : popTo x s ≠ [] := by
                  intro h; have := HP.out; rw [h] at this; simp at this
                have HC2 : Hid (Chain p (k :: popTo x s)) := chain_push HCs.out (by rw [HT.out]; omega) HX.out.symm hne
                have HV2 : Hid (1 ≤ k + 1 → plRow p = plGo (k + 1) (k :: popTo x s) (p.drop (k + 1))) := by
                  intro _
                  have := HP.out
                  rw [HG2.out, ← this]; rfl
                clear hlo hne
                go_wp2
                go_round
                case rel => exact ⟨k + 1, _, by omega, by go_num, by omega, by simp, HC2, by show (k : Int) = _; omega, HV2⟩
                case measure => simp [intOf]; omega
            | cons a q =>
              rw [top_cons] at htr hlo ⊢
              have hak : a < k := by omega
              have hca := HA.out.at_ a (by rw [HL.out]; omega)
              rw [HCr.out.1] at hca
              have htq := HCr.out.2.1
              have hqlo := top_lo q
              have HCq := Lib.hid HCr.out.2.2
              have HP2 : Hid ((B || ((a : Int) == x) || !(popTo x q).isEmpty) = !(popTo x s).isEmpty) := by
                show _ = _
                rw [← HP.out]
                by_cases hax : (a : Int) = x
                · rw [pop_cons_eq hax]; simp [hax]
                · have hb : ((a : Int) == x) = false := by simpa using hax
                  rw [pop_cons_ne hax, hb, Bool.or_false]
              obtain ⟨y, hy⟩ : ∃ y, y = top q := ⟨_, rfl⟩
              rw [← hy] at hca htq hqlo
              have HY := Lib.hid hy
              clear hy HP
              cases B with
              | true =>
                go_wp2
                go_round
                case rel => exact ⟨q, true, rfl, by rw [HY.out], by rw [← HY.out]; omega, HCq.out, HP2.out⟩
                case measure => simp [intOf]; omega
              | false =>
                go_wp2
                go_round
                case rel => exact ⟨q, ((a : Int) == x), rfl, by rw [HY.out], by rw [← HY.out]; omega, HCq.out, HP2.out⟩
                case measure => simp [intOf]; omega
        · have HF : Hid (plane p = false) := by
            show _ = _
            rw [plane_split, HG2.out, pop_range HCs.out (by rw [HT.out]; omega)]; simp
          have i1 := inR_no hxr
          have hk0' : 0 < k := by omega
          clear hxr
          go_wp2_with (go_at_call 62; refine (inC _ _ _ _).mono ?_; rintro e w' ⟨rfl, rfl⟩)
          go_ret
          exact ⟨by rw [HF.out]; rfl, rfl⟩
    · obtain rfl : k = n := by omega
      have HF : Hid (plane p = inR (k : Int) 1 9) := by
        show _ = _
        by_cases hin : 1 ≤ k ∧ k ≤ 9
        · rw [inR_yes (by omega) (by omega), plane_split, HG.out hin.1, List.drop_of_length_le (by rw [HL.out]; exact Nat.le_refl _), decide_eq_true (by rw [HL.out]; exact hin.2)]; rfl
        · rw [inR_no (by omega), plane_len_no (by rw [HL.out]; exact hin)]
      clear hs0 hs1
      go_wp2_with (go_at_call 62; refine (inC _ _ _ _).mono ?_; rintro e w' ⟨rfl, rfl⟩)
      go_ret
      exact ⟨by rw [HF.out]; rfl, rfl⟩
theorem isPlaneI_b (A : Option Addr) (n c : Nat) (p : List Int) (w : World) (hl : p.length = n) (ha : Rd .i64 w A p) (hn : n ≤ 1048576) : Calls Try.prog 16 #[.slice A n c] w fun e w' => e = .returned (.bool (plane p)) ∧ Below w.heap.size w w' := to_below (isPlaneI A n c p w hl ha hn)
theorem isPlaneS_b (A : Option Addr) (n c : Nat) (p : List Int) (w : World) (hl : p.length = n) (ha : Rd .i64 w A p) (hn : n ≤ 1048576) : Calls Try.prog 14 #[.slice A n c] w fun e w' => e = .returned (.bool (plane p)) ∧ Below w.heap.size w w' := to_below (isPlaneS A n c p w hl ha hn)
set_option maxRecDepth 100000 in
set_option maxHeartbeats 1000000 in
theorem law_FnExactIsPlane (A : Option Addr) (n c : Nat) (zs : List Int) (w : World) (h : Row .i64 w A n zs) : Calls Try.prog 3 #[.slice A n c] w fun e w' => e = .returned (.bool true) ∧ Below w.heap.size w w' := by
  obtain ⟨hl, hm, _, hr⟩ := h
  unfold maxLen at hm
  subst hl
  by_cases hb : zs.length ≤ 1048576
  · have HR := Lib.hid hr
    have HT := Lib.hid (fun w' (hbw : Below w.heap.size w w') => toIntS A zs.length c zs w' rfl (hr.keep hbw) (by omega))
    have HS := Lib.hid (fun A c w (hr : Rd .i64 w A zs) => isPlaneS_b A zs.length c zs w rfl hr hb)
    have HI := Lib.hid (fun A c w (hr : Rd .i64 w A zs) => isPlaneI_b A zs.length c zs w rfl hr hb)
    obtain ⟨b, hv⟩ : ∃ b, b = plane zs := ⟨_, rfl⟩
    rw [← hv] at HS HI
    clear hv hr
    go_enter Try.func3, Try.ntmps3
    go_wp2_with fail
    refine (HT.out _ (Below.refl _ _)).mono ?_
    rintro e w1 ⟨A1, c1, rfl, hB1⟩
    go_wp2_with fail
    refine (HS.out _ _ _ hB1.rd).mono ?_
    rintro e w2 ⟨rfl, hb2⟩
    have L2 := Lib.hid (below_then hB1.bel hb2)
    clear hB1 hb2
    go_wp2_with fail
    refine (HT.out _ L2.out).mono ?_
    rintro e w3 ⟨A3, c3, rfl, hB3⟩
    have G3 := Lib.hid hB3
    have L3 := Lib.hid (below_then L2.out hB3.bel)
    clear hB3
    go_wp2_with fail
    refine (HI.out _ _ _ G3.out.rd).mono ?_
    rintro e w4 ⟨rfl, hb4⟩
    have L4 := Lib.hid (below_then L3.out hb4)
    have R4 := Lib.hid (G3.out.rd.keep hb4)
    clear hb4
    go_wp2_with fail
    refine (HT.out _ L4.out).mono ?_
    rintro e w5 ⟨A5, c5, rfl, hB5⟩
    have L5 := Lib.hid (below_then L4.out hB5.bel)
    have G5 := Lib.hid hB5
    clear hB5
    go_wp2_with fail
    refine (eqIntS A3 A5 c3 c5 zs _ (R4.out.keep G5.out.bel) G5.out.rd (by omega)).mono ?_
    rintro e w6 ⟨rfl, hb6⟩
    go_wp2_with fail
    go_ret
    exact ⟨rfl, below_then L5.out hb6⟩
  · clear hr
    go_enter Try.func3, Try.ntmps3
    go_wp2
    go_ret
    exact ⟨rfl, Below.refl _ _⟩
end Go.Proofs.Ytndehfkamfmmeaa
