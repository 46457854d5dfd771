/-
  EarsOf of both packages and its law, walked.
-/
import Derived.Test.YthbfockobnfomaaTri4
import Derived.Test.YthbfockobnfomaaHts
namespace Go.Proofs.Ythbfockobnfomaa
open Go.RowKit
def noEnd (c : Nat) (x : List Int) : Bool := (x.getD 0 0 != (c : Int)) && (x.getD 1 0 != (c : Int))
def freeB (zss : List (List Int)) (c : Nat) : Bool := zss.all (noEnd c)
def earL (zss : List (List Int)) (c : Nat) : List Int := ((List.range c).filter (freeB zss)).map fun (n : Nat) => (n : Int)
def earV (n : Int) (zss : List (List Int)) : List Int := if tri n zss = true then earL zss n.toNat else []
theorem earL_yes {zss : List (List Int)} {c : Nat} (h : freeB zss c = true) : earL zss (c + 1) = earL zss c ++ [(c : Int)] := by
  unfold earL; rw [List.range_succ, List.filter_append, List.map_append, List.filter_cons, if_pos h]; rfl
theorem earL_no {zss : List (List Int)} {c : Nat} (h : freeB zss c = false) : earL zss (c + 1) = earL zss c := by
  unfold earL; rw [List.range_succ, List.filter_append, List.map_append, List.filter_cons, if_neg (by rw [h]; simp)]; simp
theorem earL_len (zss : List (List Int)) (c : Nat) : (earL zss c).length ≤ c := by
  unfold earL
  have := List.length_filter_le (freeB zss) (List.range c)
  simpa using this
theorem tri_in {n : Int} {zss : List (List Int)} (h : tri n zss = true) : 2 ≤ n ∧ n ≤ 10 ∧ zss.length ≤ 7 := by
  simp only [tri, Bool.and_eq_true, decide_eq_true_eq] at h
  obtain ⟨h1, h2, _⟩ := h
  have := inR_out h1
  refine ⟨this.1, this.2, ?_⟩
  unfold triL at h2
  split at h2 <;> omega
theorem tri_two {n : Int} {zss : List (List Int)} (h : tri n zss = true) (j : Nat) (hj : j < zss.length) : (row zss j).length = 2 := by
  simp only [tri, Bool.and_eq_true] at h
  exact triR_two (all_get h.2.2 j hj)
theorem earV_len (n : Int) (zss : List (List Int)) : (earV n zss).length ≤ 10 := by
  unfold earV
  split
  · rename_i h
    have := tri_in h
    have := earL_len zss n.toNat
    omega
  · simp
theorem take_all_succ (zss : List (List Int)) (c j : Nat) (hj : j < zss.length) : (zss.take (j + 1)).all (noEnd c) = ((zss.take j).all (noEnd c) && noEnd c (row zss j)) := by
  rw [List.take_succ_eq_append_getElem hj, List.all_append]
  simp [row, List.getD, hj]
theorem noEnd_row (zss : List (List Int)) (c j : Nat) : noEnd c (row zss j) = (((row zss j).getD 0 0 != (c : Int)) && ((row zss j).getD 1 0 != (c : Int))) := rfl

set_option maxRecDepth 100000 in
set_option maxHeartbeats 2000000 in
theorem earsI (n : Int) (A : Option Addr) (c L : Nat) (zss : List (List Int)) (w : World) (hL : zss.length = L) (hL2 : L ≤ 1048576) (hLc : L ≤ c) (hcm : c ≤ 9223372036854775807) (ha : RdM w A zss) : Calls Try.prog 51 #[.int .i64 n, .slice A L c] w (RetI (earV n zss) w) := by
  have HTr := Lib.hid (fun w' (hb : Below w.heap.size w w') => isTriI n A c L zss w' hL hL2 hLc hcm (ha.keep hb))
  have hlit := lit_nil w
  cases ht : tri n zss with
  | false =>
    rw [ht] at HTr
    have HV : Hid (earV n zss = []) := by show _ = _; unfold earV; rw [if_neg (by rw [ht]; simp)]
    rw [HV.out]
    clear ha hL
    go_enter Try.func51, Try.ntmps51
    go_wp2_with (go_at_call 48; refine (HTr.out _ hlit.bel).mono ?_; rintro e w1 ⟨rfl, hb1⟩)
    go_ret
    exact RetI.of (hlit.after hb1)
  | true =>
    rw [ht] at HTr
    obtain ⟨n2, n10, hL7⟩ := tri_in ht
    obtain ⟨N, rfl⟩ : ∃ N : Nat, n = (N : Int) := ⟨n.toNat, by omega⟩
    have HV : Hid (earV (N : Int) zss = earL zss N) := by show _ = _; unfold earV; rw [if_pos ht]; rfl
    have HT2 := Lib.hid (tri_two ht)
    have HA := Lib.hid ha
    have HL := Lib.hid hL
    rw [hL] at hL7
    clear ha hL ht
    go_enter Try.func51, Try.ntmps51
    go_wp2_with (go_at_call 48; refine (HTr.out _ hlit.bel).mono ?_; rintro e w1 ⟨rfl, hb1⟩)
    have hB1 := hlit.after hb1
    clear hb1
    go_loopw [5, 6, 7] (fun ov ci _ wr => ∃ k : Nat, k ≤ N ∧ ci = .int .i64 (k : Int) ∧ Buf w wr 3 ov ((earL zss k).map (Value.int .i64))) (fun _ ci _ _ => N - (intOf ci).toNat)
    case atStart => exact ⟨0, by omega, rfl, hB1⟩
    case round =>
      obtain ⟨k, hk, rfl, hBr⟩ := hrel
      obtain ⟨wo, hwo⟩ : ∃ wo : World, wo = wr := ⟨_, rfl⟩
      rw [← hwo] at hBr ⊢
      clear hwo
      by_cases hlt : k < N
      · go_wp2_with fail
        go_loop [7, 23] (fun f i => ∃ (j : Nat) (B : Bool), j ≤ L ∧ i = .int .i64 (j : Int) ∧ f = .bool B ∧ Hid ((zss.take j).all (noEnd k) = B)) (fun _ i => L - (intOf i).toNat)
        case atStart => exact ⟨0, true, by omega, rfl, rfl, rfl⟩
        case round =>
          obtain ⟨j, B, hj, rfl, rfl, HB⟩ := hrel
          by_cases hjl : j < L
          · have hjz : j < zss.length := by rw [HL.out]; exact hjl
            obtain ⟨b, o, rfl⟩ := HA.out.form (by omega)
            obtain ⟨Aj, cj, hcj', hmj, hrj⟩ := HA.out.get j hjz
            have h2 := HT2.out j hjz
            rw [h2] at hcj'
            obtain ⟨pj, oj, rfl, g0, g1⟩ := Two.of (hrj.keep hBr.bel) h2
            have hcj := hcj' _ hBr.bel
            have hst := take_all_succ zss k j hjz
            rw [HB.out, noEnd_row] at hst
            obtain ⟨x, hx⟩ : ∃ x, x = (row zss j).getD 0 0 := ⟨_, rfl⟩
            obtain ⟨y, hy⟩ : ∃ y, y = (row zss j).getD 1 0 := ⟨_, rfl⟩
            rw [← hx] at g0 hst
            rw [← hy] at g1 hst
            clear hx hy hcj' hrj h2 hmj
            cases B with
            | false =>
              have HB2 : Hid ((zss.take (j + 1)).all (noEnd k) = false) := hst
              clear hst
              go_wp2
              go_round
              case rel => exact ⟨j + 1, false, by omega, by go_num, rfl, HB2.out⟩
              case measure => simp [intOf]; omega
            | true =>
              by_cases hxk : x = (k : Int)
              · have d1 : (x != (k : Int)) = false := by simpa using hxk
                have HB2 : Hid ((zss.take (j + 1)).all (noEnd k) = false) := by show _ = _; rw [hst, d1]; rfl
                clear hst hxk
                go_wp2
                go_round
                case rel => exact ⟨j + 1, false, by omega, by go_num, rfl, HB2.out⟩
                case measure => simp [intOf]; omega
              · have d1 : (x != (k : Int)) = true := by simpa using hxk
                have HB2 : Hid ((zss.take (j + 1)).all (noEnd k) = (y != (k : Int))) := by show _ = _; rw [hst, d1]; rfl
                clear hst hxk
                go_wp2
                go_round
                case rel => exact ⟨j + 1, _, by omega, by go_num, rfl, HB2.out⟩
                case measure => simp [intOf]; omega
          · obtain rfl : j = L := by omega
            have hfr : freeB zss k = B := by
              have := HB.out
              rw [List.take_of_length_le (by rw [HL.out]; exact Nat.le_refl _)] at this
              exact this
            have hel := earL_len zss k
            have hxl : ((earL zss k).map (Value.int .i64)).length ≤ 17 := by rw [List.length_map]; omega
            cases B with
            | false =>
              have HE := Lib.hid (earL_no hfr)
              rw [← HE.out] at hBr
              clear hfr hel hxl
              go_wp2
              go_roundw
              case rel => exact ⟨k + 1, by omega, by go_num, hBr⟩
              case measure => simp [intOf]; omega
            | true =>
              have HE := Lib.hid (earL_yes hfr)
              clear hfr hel
              go_wp2_with (at_builtin; refine buf_append1 elInt rfl _ _ rfl hBr rfl rfl rfl (by omega) ?_; intro v2 w2 hB2 _ _)
              have HB3 : Hid (Buf w w2 3 v2 ((earL zss (k + 1)).map (Value.int .i64))) := by
                show Buf _ _ _ _ _
                rw [HE.out, List.map_append]; exact hB2
              clear hB2
              go_roundw
              case rel => exact ⟨k + 1, by omega, by go_num, HB3.out⟩
              case measure => simp [intOf]; omega
      · obtain rfl : k = N := by omega
        rw [← HV.out] at hBr
        go_wp2
        go_ret
        exact RetI.of hBr
set_option maxRecDepth 100000 in
set_option maxHeartbeats 2000000 in
theorem earsS (n : Int) (A : Option Addr) (c L : Nat) (zss : List (List Int)) (w : World) (hL : zss.length = L) (hL2 : L ≤ 1048576) (ha : RdM w A zss) : Calls Try.prog 50 #[.int .i64 n, .slice A L c] w (RetI (earV n zss) w) := by
  have HTr := Lib.hid (fun w' (hb : Below w.heap.size w w') => isTriS n A c L zss w' hL hL2 (ha.keep hb))
  have hlit := lit_nil w
  cases ht : tri n zss with
  | false =>
    rw [ht] at HTr
    have HV : Hid (earV n zss = []) := by show _ = _; unfold earV; rw [if_neg (by rw [ht]; simp)]
    rw [HV.out]
    clear ha hL
    go_enter Try.func50, Try.ntmps50
    go_wp2_with fail
    refine wp_loop_rounds 1 ?_
    rw [rounds_succ]
    by_cases hn0 : 0 < n
    · go_wp2_with (go_at_call 46; refine (HTr.out _ hlit.bel).mono ?_; rintro e w1 ⟨rfl, hb1⟩)
      go_ret
      exact RetI.of (hlit.after hb1)
    · go_wp2_with fail
      go_ret
      exact RetI.of hlit
  | true =>
    rw [ht] at HTr
    obtain ⟨n2, n10, hL7⟩ := tri_in ht
    obtain ⟨N, rfl⟩ : ∃ N : Nat, n = (N : Int) := ⟨n.toNat, by omega⟩
    have HV : Hid (earV (N : Int) zss = earL zss N) := by show _ = _; unfold earV; rw [if_pos ht]; rfl
    have HT2 := Lib.hid (tri_two ht)
    have HA := Lib.hid ha
    have HL := Lib.hid hL
    rw [hL] at hL7
    clear ha hL ht
    go_enter Try.func50, Try.ntmps50
    go_wp2_with fail
    go_loopw [5, 6, 7, 8] (fun ov ci _ _ wr => ∃ k : Nat, k ≤ N ∧ ci = .int .i64 (k : Int) ∧ Buf w wr 3 ov ((earL zss k).map (Value.int .i64))) (fun _ ci _ _ _ => N - (intOf ci).toNat)
    case atStart => exact ⟨0, by omega, rfl, hlit⟩
    case round =>
      obtain ⟨k, hk, rfl, hBr⟩ := hrel
      obtain ⟨wo, hwo⟩ : ∃ wo : World, wo = wr := ⟨_, rfl⟩
      rw [← hwo] at hBr ⊢
      clear hwo
      have HTk := Lib.hid (HTr.out _ hBr.bel)
      by_cases hlt : k < N
      · have hltI : (k : Int) < (N : Int) := by omega
        go_wp2_with (go_at_call 46; refine (HTk.out).mono ?_; rintro e w1 ⟨rfl, hb1⟩)
        replace hBr := hBr.after hb1
        clear hb1
        go_loop [7, 8] (fun f i => ∃ (j : Nat) (B : Bool), j ≤ L ∧ i = .int .i64 (j : Int) ∧ f = .bool B ∧ Hid ((zss.take j).all (noEnd k) = B)) (fun _ i => L - (intOf i).toNat)
        case atStart => exact ⟨0, true, by omega, rfl, rfl, rfl⟩
        case round =>
          obtain ⟨j, B, hj, rfl, rfl, HB⟩ := hrel
          have hj0 : (0 : Int) ≤ (j : Int) := by omega
          by_cases hjl : j < L
          · have hjI : (j : Int) < (L : Int) := by omega
            have hjz : j < zss.length := by rw [HL.out]; exact hjl
            obtain ⟨b, o, rfl⟩ := HA.out.form (by omega)
            obtain ⟨Aj, cj, hcj', hmj, hrj⟩ := HA.out.get j hjz
            have h2 := HT2.out j hjz
            rw [h2] at hcj'
            obtain ⟨pj, oj, rfl, g0, g1⟩ := Two.of (hrj.keep hBr.bel) h2
            have hcj := hcj' _ hBr.bel
            have hst := take_all_succ zss k j hjz
            rw [HB.out, noEnd_row] at hst
            obtain ⟨x, hx⟩ : ∃ x, x = (row zss j).getD 0 0 := ⟨_, rfl⟩
            obtain ⟨y, hy⟩ : ∃ y, y = (row zss j).getD 1 0 := ⟨_, rfl⟩
            rw [← hx] at g0 hst
            rw [← hy] at g1 hst
            clear hx hy hcj' hrj h2 hmj
            cases B with
            | false =>
              have HB2 : Hid ((zss.take (j + 1)).all (noEnd k) = false) := hst
              clear hst
              go_wp2
              go_round
              case rel => exact ⟨j + 1, false, by omega, by go_num, rfl, HB2.out⟩
              case measure => simp [intOf]; omega
            | true =>
              by_cases hxk : x = (k : Int)
              · have d1 : (x != (k : Int)) = false := by simpa using hxk
                have HB2 : Hid ((zss.take (j + 1)).all (noEnd k) = false) := by show _ = _; rw [hst, d1]; rfl
                clear hst hxk
                go_wp2
                go_round
                case rel => exact ⟨j + 1, false, by omega, by go_num, rfl, HB2.out⟩
                case measure => simp [intOf]; omega
              · have d1 : (x != (k : Int)) = true := by simpa using hxk
                have HB2 : Hid ((zss.take (j + 1)).all (noEnd k) = (y != (k : Int))) := by show _ = _; rw [hst, d1]; rfl
                clear hst hxk
                go_wp2
                go_round
                case rel => exact ⟨j + 1, _, by omega, by go_num, rfl, HB2.out⟩
                case measure => simp [intOf]; omega
          · obtain rfl : j = L := by omega
            have hfr : freeB zss k = B := by
              have := HB.out
              rw [List.take_of_length_le (by rw [HL.out]; exact Nat.le_refl _)] at this
              exact this
            have hel := earL_len zss k
            have hxl : ((earL zss k).map (Value.int .i64)).length ≤ 17 := by rw [List.length_map]; omega
            cases B with
            | false =>
              have HE := Lib.hid (earL_no hfr)
              rw [← HE.out] at hBr
              clear hfr hel hxl
              go_wp2
              go_roundw
              case rel => exact ⟨k + 1, by omega, by go_num, hBr⟩
              case measure => simp [intOf]; omega
            | true =>
              have HE := Lib.hid (earL_yes hfr)
              clear hfr hel
              go_wp2_with (at_builtin; refine buf_append1 elInt rfl _ _ rfl hBr rfl rfl rfl (by omega) ?_; intro v2 w2 hB2 _ _)
              have HB3 : Hid (Buf w w2 3 v2 ((earL zss (k + 1)).map (Value.int .i64))) := by
                show Buf _ _ _ _ _
                rw [HE.out, List.map_append]; exact hB2
              clear hB2
              go_roundw
              case rel => exact ⟨k + 1, by omega, by go_num, HB3.out⟩
              case measure => simp [intOf]; omega
      · obtain rfl : k = N := by omega
        rw [← HV.out] at hBr
        go_wp2
        go_ret
        exact RetI.of hBr
theorem ears_law (n : Int) (zss : List (List Int)) (hln : zss.length ≤ 1048576) (_ : zss.length + szRest zss ≤ 1048576) : ∃ l : List Int, l.length ≤ 1073741824 ∧ (∀ A c w, zss.length ≤ c → c ≤ 9223372036854775807 → RdM w A zss → Calls Try.prog 50 #[.int .i64 n, .slice A zss.length c] w (RetI l w)) ∧
    (∀ A c w, zss.length ≤ c → c ≤ 9223372036854775807 → RdM w A zss → Calls Try.prog 51 #[.int .i64 n, .slice A zss.length c] w (RetI l w)) :=
  ⟨earV n zss, by have := earV_len n zss; omega, fun A c w _ _ ha => earsS n A c _ zss w rfl hln ha, fun A c w h1 h2 ha => earsI n A c _ zss w rfl hln h1 h2 ha⟩
end Go.Proofs.Ythbfockobnfomaa
