/-
  impl.BallotNumber, walked: row by row.
-/
import Derived.Test.YtfpdkjoimmociaaBalP
import Derived.Test.YtfpdkjoimmociaaOps
import Derived.Test.YtfpdkjoimmociaaInts
namespace Go.Proofs.Ytfpdkjoimmociaa
open Go.RowKit
theorem elInt : Elem Try.prog 24 3 (.int .i64 0) 8 := ⟨Try.underlying24, by kernel_rfl, rfl, by decide⟩
theorem set_ones (n k : Nat) (h : k < n) : (List.replicate k (1 : Int) ++ List.replicate (n - k) 0).set k 1 = List.replicate (k + 1) 1 ++ List.replicate (n - (k + 1)) 0 := by
  rw [show n - k = (n - (k + 1)) + 1 by omega, List.replicate_succ (n := n - (k + 1)), set_mid _ _ _ _ k (by simp), show ([1] : List Int) = List.replicate 1 1 from rfl, List.replicate_append_replicate]

theorem ballotI_no (up down : Int) (w : World) (h : up < 0 ∨ 15 < up ∨ down < up ∨ 15 < down) : Calls Try.prog 96 #[.int .i64 up, .int .i64 down] w fun e w' => e = .returned (.int .i64 0) ∧ Below w.heap.size w w' := by
  by_cases h1 : up < 0 ∨ 15 < up
  · clear h
    go_enter Try.func96, Try.ntmps96
    go_wp2_with (go_at_call 91; refine (within_no _ _ _ _ h1).mono ?_; rintro e w' ⟨rfl, rfl⟩)
    go_ret
    exact ⟨rfl, Below.refl _ _⟩
  · have h2 : down < up ∨ 15 < down := by omega
    have h3 : 0 ≤ up := by omega
    have h4 : up ≤ 15 := by omega
    clear h h1
    go_enter Try.func96, Try.ntmps96
    go_wp2_with fail
    refine (within_yes _ _ _ _ h3 h4).mono ?_
    rintro e w' ⟨rfl, rfl⟩
    go_wp2_with fail
    refine (within_no _ _ _ _ h2).mono ?_
    rintro e w' ⟨rfl, rfl⟩
    clear h2
    go_wp2_with fail
    go_ret
    exact ⟨rfl, Below.refl _ _⟩

set_option maxRecDepth 100000 in
set_option maxHeartbeats 2000000 in
theorem ballotI_yes (up D : Nat) (w : World) (h1 : up ≤ D) (h2 : D ≤ 15) : Calls Try.prog 96 #[.int .i64 up, .int .i64 D] w fun e w' => e = .returned (.int .i64 (balV up D)) ∧ Below w.heap.size w w' := by
  go_enter Try.func96, Try.ntmps96
  go_wp2_with (first | (go_at_call 91; refine (within_yes _ _ _ _ (by omega) (by omega)).mono ?_; rintro e w' ⟨rfl, rfl⟩) | (at_make; refine buf_make elInt (Below.refl w.heap.size w) (D + 1) (by omega) rfl _ _ rfl _ _ _ _ rfl rfl rfl rfl ?_; intro w1 hB _))
  go_loopw [24, 6] (fun i _ wr => ∃ k : Nat, k ≤ D + 1 ∧ i = .int .i64 (k : Int) ∧ Buf w wr 3 (.slice (some ⟨w.heap.size, 0, none⟩) (D + 1) (D + 1)) ((List.replicate k (1 : Int) ++ List.replicate (D + 1 - k) 0).map (Value.int .i64))) (fun i _ _ => D + 1 - (intOf i).toNat)
  case atStart => exact ⟨0, by omega, rfl, by simpa using hB⟩
  case round =>
    obtain ⟨k, hk, rfl, hBr⟩ := hrel
    by_cases hlt : k < D + 1
    · have hc := hBr.cellAt k hlt
      have hf := hBr.frozenAt k
      have HS := Lib.hid (hBr.set k (.int .i64 1))
      rw [← List.map_set, set_ones _ _ hlt] at HS
      obtain ⟨u, hu⟩ : ∃ u, ((List.replicate k (1 : Int) ++ List.replicate (D + 1 - k) 0).map (Value.int .i64))[k]? = some u := ⟨_, List.getElem?_eq_getElem (by simp; omega)⟩
      rw [hu] at hc
      clear hu hBr
      go_wp2
      go_roundw
      case rel => exact ⟨k + 1, by omega, by go_num, HS.out⟩
      case measure => simp [intOf]; omega
    · obtain rfl : k = D + 1 := by omega
      have hB0 : Buf w wr 3 (.slice (some ⟨w.heap.size, 0, none⟩) (D + 1) (D + 1)) ((castL (rows D 0)).map (Value.int .i64)) := by
        have e : castL (rows D 0) = List.replicate (D + 1) 1 ++ List.replicate (D + 1 - (D + 1)) 0 := by simp [castL, rows]
        rw [e]; exact hBr
      clear hBr
      obtain ⟨wa, rfl⟩ : ∃ wa : World, wa = wr := ⟨_, rfl⟩
      go_wp2_with fail
      go_loopw [5, 7, 8, 9] (fun v u _ _ wr => ∃ (U g c : Nat), U ≤ up ∧ u = .int .i64 ((U : Int) + 1) ∧ v = .slice (some ⟨g, 0, none⟩) (D + 1) c ∧ Buf w wr 3 (.slice (some ⟨g, 0, none⟩) (D + 1) c) ((castL (rows D U)).map (Value.int .i64))) (fun _ u _ _ _ => up + 1 - (intOf u).toNat)
      case atStart => exact ⟨0, w.heap.size, D + 1, by omega, rfl, rfl, hB0⟩
      case round =>
        obtain ⟨U, g, c, hU, rfl, rfl, hBo⟩ := hrel
        obtain ⟨wo, hwo⟩ : ∃ wo : World, wo = wr := ⟨_, rfl⟩
        rw [← hwo] at hBo ⊢
        clear hwo
        by_cases hlt : U + 1 ≤ up
        · have hgl := hBo.lt.2
          go_wp2_with (at_make; refine buf_make elInt (Below.refl wo.heap.size wo) (D + 1) (by omega) rfl _ _ rfl _ _ _ _ rfl rfl rfl rfl ?_; intro w2 hN _)
          go_loopw [9] (fun d wz => ∃ E : Nat, U ≤ E ∧ E ≤ D ∧ d = .int .i64 ((E : Int) + 1) ∧ Buf wo wz 3 (.slice (some ⟨wo.heap.size, 0, none⟩) (D + 1) (D + 1)) ((nx D (U + 1) (E + 1)).map (Value.int .i64))) (fun d _ => D + 1 - (intOf d).toNat)
          case atStart => exact ⟨U, by omega, by omega, rfl, by rw [nx_start D U (by omega)]; simpa using hN⟩
          case round =>
            obtain ⟨E, hE1, hE2, rfl, hNr⟩ := hrel
            by_cases he : E + 1 ≤ D
            · have hR := hBo.after hNr.bel
              obtain ⟨x, hx⟩ : ∃ x : Nat, x = (rows D U).getD (E + 1) 0 := ⟨_, rfl⟩
              have hxb : x ≤ 100000000 := by rw [hx]; exact rows_le D U (E + 1) h2 (by omega)
              have hc1 : wr.cell? ⟨g, E + 1, none⟩ = some (.int .i64 (x : Int)) := by
                rw [hR.cellAt (E + 1) (by omega), hx, ← castL_get _ _ (by rw [len_rows]; omega)]
                simp [List.getD, len_castL, len_rows, show E + 1 < D + 1 by omega]
              have hlen := len_nx D (U + 1) (E + 1) (by omega)
              obtain ⟨u1, hu1⟩ : ∃ u1, wr.cell? ⟨wo.heap.size, E + 1, none⟩ = some u1 := ⟨_, by rw [hNr.cellAt (E + 1) (by omega)]; exact List.getElem?_eq_getElem (by simp [hlen]; omega)⟩
              have hf1 := hNr.frozenAt (E + 1)
              have hS := hNr.set (E + 1) (.int .i64 (x : Int))
              rw [← List.map_set] at hS
              by_cases hEU : E = U
              · subst hEU
                have hval : (rows D (E + 1)).getD (E + 1) 0 = x := by rw [rows_get D E (E + 1) he, if_neg (by omega), if_pos rfl, hx]
                have hset := nx_set D (E + 1) (E + 1) he
                rw [hval] at hset
                rw [hset] at hS
                have HS := Lib.hid hS
                clear hS hset hval hx hR hNr
                go_wp2
                go_roundw
                case rel => exact ⟨E + 1, by omega, by omega, by go_num, HS.out⟩
                case measure => simp [intOf]; omega
              · have hUE : U < E := by omega
                obtain ⟨y, hy⟩ : ∃ y : Nat, y = (rows D (U + 1)).getD E 0 := ⟨_, rfl⟩
                have hyb : y ≤ 100000000 := by rw [hy]; exact rows_le D (U + 1) E h2 (by omega)
                have hval : (rows D (U + 1)).getD (E + 1) 0 = x + y := by
                  rw [rows_get D U (E + 1) he, if_neg (by omega), if_neg (by omega), ← hx, show E + 1 - 1 = E by omega, ← hy]
                have hset := nx_set D (U + 1) (E + 1) he
                rw [hval] at hset
                have hny := nx_get D (U + 1) (E + 1) E (by omega) (by omega)
                rw [← hy] at hny
                have hca : (wr.setCell ⟨wo.heap.size, E + 1, none⟩ (.int .i64 (x : Int))).cell? ⟨wo.heap.size, E + 1, none⟩ = some (.int .i64 (x : Int)) := by
                  rw [hS.cellAt (E + 1) (by omega), List.getElem?_map, List.getElem?_set_self (by rw [hlen]; omega)]; rfl
                have hcb : (wr.setCell ⟨wo.heap.size, E + 1, none⟩ (.int .i64 (x : Int))).cell? ⟨wo.heap.size, E, none⟩ = some (.int .i64 (y : Int)) := by
                  rw [hS.cellAt E (by omega), ← hny]
                  simp [List.getD, hlen, show E < D + 1 by omega]
                have hfa := hS.frozenAt (E + 1)
                have hS2 := hS.drew.set (E + 1) (.int .i64 ((x : Int) + y))
                rw [← List.map_set, List.set_set, show (x : Int) + (y : Int) = ((x + y : Nat) : Int) from by omega, hset] at hS2
                have HS := Lib.hid hS2
                clear hS2 hS hset hval hx hy hny hR hNr
                go_wp2_with fail
                go_region
                all_goals
                  go_wp2
                  go_roundw
                  case rel => exact ⟨E + 1, by omega, by omega, by go_num, HS.out⟩
                  case measure => simp [intOf]; omega
            · obtain rfl : E = D := by omega
              rw [nx_full] at hNr
              have HN := Lib.hid (hNr.from_ hBo.bel)
              clear hNr
              go_wp2
              go_roundw
              case rel => ((repeat apply Exists.intro); exact ⟨⟨U + 1, wo.heap.size, E + 1, by omega, by go_num, rfl, HN.out⟩, rfl⟩)
              case measure => simp [intOf]; omega
        · obtain rfl : U = up := by omega
          have hc : wo.cell? ⟨g, D, none⟩ = some (.int .i64 (balV U D)) := by
            rw [hBo.cellAt D (by omega)]
            unfold balV
            rw [← castL_get _ _ (by rw [len_rows]; omega)]
            simp [List.getD, len_castL, len_rows]
          have HL := Lib.hid hBo.bel
          clear hBo
          go_wp2
          go_ret
          exact ⟨rfl, HL.out⟩
end Go.Proofs.Ytfpdkjoimmociaa
