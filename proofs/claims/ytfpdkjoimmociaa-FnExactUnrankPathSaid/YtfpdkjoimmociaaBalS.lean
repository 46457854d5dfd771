/-
  spec.l3Ways, walked: a table of rows.
-/
import Derived.Test.YtfpdkjoimmociaaBalI
namespace Go.Proofs.Ytfpdkjoimmociaa
open Go.RowKit
theorem elRow : Elem Try.prog 73 24 (.slice none 0 0) 24 := ⟨Try.underlying73, by kernel_rfl, rfl, by decide⟩

set_option maxRecDepth 100000 in
set_option maxHeartbeats 4000000 in
theorem waysS (up D : Nat) (w : World) (h1 : up ≤ D) (h2 : D ≤ 15) : Calls Try.prog 94 #[.int .i64 up, .int .i64 D] w fun e w' => e = .returned (.int .i64 (balV up D)) ∧ Below w.heap.size w w' := by
  have hlit := Buf.lit (w0 := w) (e := 24) (Below.refl _ w) [] (by decide)
  go_enter Try.func94, Try.ntmps94
  go_wp2_with fail
  go_loopw [5, 6, 7] (fun v i _ wr => ∃ (I : Nat) (xs : List Value), I ≤ up + 1 ∧ i = .int .i64 (I : Int) ∧ xs.length = I ∧ Buf w wr 24 v xs ∧ Hid (I = 0 ∨ ∃ ys g c, xs = ys ++ [.slice (some ⟨g, 0, none⟩) (D + 1) c] ∧ Buf w wr 3 (.slice (some ⟨g, 0, none⟩) (D + 1) c) ((castL (rows D (I - 1))).map (Value.int .i64)))) (fun _ i _ _ => up + 1 - (intOf i).toNat)
  case atStart => exact ⟨0, [], by omega, rfl, rfl, hlit, .inl rfl⟩
  case round =>
    obtain ⟨I, xs, hI, rfl, hxl, hT, HR⟩ := hrel
    obtain ⟨wo, hwo⟩ : ∃ wo : World, wo = wr := ⟨_, rfl⟩
    rw [← hwo] at hT HR ⊢
    clear hwo
    have hx16 : xs.length ≤ 16 := by omega
    by_cases hlt : I ≤ up
    · go_wp2_with (first | (at_make; refine buf_make elInt (Below.refl wo.heap.size wo) (D + 1) (by omega) rfl _ _ rfl _ _ _ _ rfl rfl rfl rfl ?_; intro w2 hN hg2) | (at_builtin; refine buf_append1 elRow rfl _ _ rfl (hT.after hN.bel) rfl rfl rfl (by omega) ?_; intro v3 w3 hT3 hat3 hg3))
      have hvlt : ∀ k, u5.ownBlock = some k → w.heap.size ≤ k ∧ k < wo.heap.size := fun k hk => hT.own.lt k hk
      have hRow2 := hN.from_ hT.bel
      have hne2 : (Value.slice (some ⟨wo.heap.size, 0, none⟩) (D + 1) (D + 1)).ownBlock ≠ u5.ownBlock := by
        intro h; have := hvlt wo.heap.size h.symm; omega
      have hRow3 := hRow2.kept_ hg3 (.inr hne2) (fun k hk => (hvlt k hk).1)
      obtain ⟨gt, N, ct, hv3, hN4⟩ := hT3.form' (by simp)
      have hN3 : N = I + 1 := by rw [hN4]; simp [hxl]
      clear hN4
      subst hv3
      subst hN3
      have hgt : gt ≠ wo.heap.size := by
        intro h
        exact hRow3.ne_ hT3 (by decide) (g := wo.heap.size) rfl (by rw [h]; rfl)
      have hgwo : w.heap.size ≤ wo.heap.size := hT.bel.size
      have hP3 : Hid (I = 0 ∨ ∃ ys g c, xs = ys ++ [.slice (some ⟨g, 0, none⟩) (D + 1) c] ∧ g ≠ wo.heap.size ∧ Buf w w3 3 (.slice (some ⟨g, 0, none⟩) (D + 1) c) ((castL (rows D (I - 1))).map (Value.int .i64))) := by
        rcases HR.out with h | ⟨ys, g, c, hxs, hp⟩
        · exact .inl h
        · refine .inr ⟨ys, g, c, hxs, by have := hp.lt.2; omega, ?_⟩
          refine (hp.after hN.bel).kept_ hg3 ?_ (fun k hk => (hvlt k hk).1)
          right
          intro h
          exact (hp.after hN.bel).ne_ (hT.after hN.bel) (by decide) (g := g) rfl h.symm
      clear hN hT hRow2 hne2 hg3 hat3 hg2 HR hvlt
      obtain ⟨gi, hgi⟩ : ∃ gi, gi = wo.heap.size := ⟨_, rfl⟩
      rw [← hgi] at hRow3 hT3 hgt hgwo hP3
      have hgi' := Lib.hid hgi
      clear hgi hx16
      cases I with
      | zero =>
        obtain rfl : xs = [] := List.eq_nil_of_length_eq_zero hxl
        rw [show ((0 : Nat) : Int) = 0 from rfl, show (0 : Nat) + 1 = 1 from rfl]
        rw [show (0 : Nat) + 1 = 1 from rfl] at hT3
        clear hxl hP3
        go_loopw [7] (fun k wz => ∃ E : Nat, E ≤ D + 1 ∧ k = .int .i64 (E : Int) ∧ Buf w wz 3 (.slice (some ⟨gi, 0, none⟩) (D + 1) (D + 1)) ((nx D 0 E).map (Value.int .i64)) ∧ Buf w wz 24 (.slice (some ⟨gt, 0, none⟩) 1 ct) ([] ++ [.slice (some ⟨gi, 0, none⟩) (D + 1) (D + 1)])) (fun k _ => D + 1 - (intOf k).toNat)
        case atStart => exact ⟨0, by omega, rfl, by simpa [nx, castL] using hRow3, hT3⟩
        case round =>
          obtain ⟨E, hE, rfl, hRz, hTz⟩ := hrel
          by_cases he : E ≤ D
          · have hct : wr.cell? ⟨gt, 0, none⟩ = some (.slice (some ⟨gi, 0, none⟩) (D + 1) (D + 1)) := by rw [hTz.cellAt 0 (by omega)]; rfl
            have hlen := len_nx D 0 E (by omega)
            obtain ⟨u1, hu1⟩ : ∃ u1, wr.cell? ⟨gi, E, none⟩ = some u1 := ⟨_, by rw [hRz.cellAt E (by omega)]; exact List.getElem?_eq_getElem (by simp [hlen]; omega)⟩
            have hf := hRz.frozenAt E
            have hS := hRz.set E (.int .i64 1)
            have hset := nx_set D 0 E he
            rw [show (rows D 0).getD E 0 = 1 by simp [rows, List.getD, show E < D + 1 by omega]] at hset
            rw [← List.map_set, show (1 : Int) = ((1 : Nat) : Int) from rfl, hset] at hS
            have HS := Lib.hid hS
            have HT := Lib.hid (hTz.far hgwo (fun h => hgt (by simpa [Value.ownBlock] using h)) E (.int .i64 1))
            clear hS hset hRz hTz
            go_wp2
            go_roundw
            case rel => exact ⟨E + 1, by omega, by go_num, HS.out, HT.out⟩
            case measure => simp [intOf]; omega
          · obtain rfl : E = D + 1 := by omega
            rw [nx_full] at hRz
            have HRz := Lib.hid hRz
            have HTz := Lib.hid hTz
            clear hRz hTz
            go_wp2
            go_roundw
            case rel => first | exact ⟨1, _, by omega, rfl, rfl, HTz.out, .inr ⟨[], gi, D + 1, rfl, HRz.out⟩⟩ | ((repeat apply Exists.intro); exact ⟨⟨1, _, by omega, rfl, rfl, HTz.out, .inr ⟨[], gi, D + 1, rfl, HRz.out⟩⟩, rfl⟩)
            case measure => simp [intOf]
      | succ J =>
        obtain ⟨ys, gp, cp, hxs, hgp, hP⟩ := hP3.out.resolve_left (by omega)
        have hyl : ys.length = J := by rw [hxs] at hxl; simpa using hxl
        subst hxs
        rw [show ((J + 1 : Nat) : Int) = (J : Int) + 1 from rfl]
        rw [show J + 1 - 1 = J by omega] at hP
        have hgpi : gp ≠ gi := hgp
        have HYL := Lib.hid hyl
        clear hP3 hxl hgp hyl
        go_loopw [7] (fun k wz => ∃ F : Nat, J ≤ F ∧ F ≤ D ∧ k = .int .i64 ((F : Int) + 1) ∧ Buf w wz 3 (.slice (some ⟨gi, 0, none⟩) (D + 1) (D + 1)) ((nx D (J + 1) (F + 1)).map (Value.int .i64)) ∧ Buf w wz 24 (.slice (some ⟨gt, 0, none⟩) (J + 1 + 1) ct) ((ys ++ [.slice (some ⟨gp, 0, none⟩) (D + 1) cp]) ++ [.slice (some ⟨gi, 0, none⟩) (D + 1) (D + 1)]) ∧ Buf w wz 3 (.slice (some ⟨gp, 0, none⟩) (D + 1) cp) ((castL (rows D J)).map (Value.int .i64))) (fun k _ => D + 1 - (intOf k).toNat)
        case atStart => exact ⟨J, by omega, by omega, rfl, by rw [nx_start D J (by omega)]; simpa using hRow3, hT3, hP⟩
        case round =>
          obtain ⟨F, hF1, hF2, rfl, hRz, hTz, hPz⟩ := hrel
          by_cases he : F + 1 ≤ D
          · have hyl := HYL.out
            have hct1 : wr.cell? ⟨gt, J + 1, none⟩ = some (.slice (some ⟨gi, 0, none⟩) (D + 1) (D + 1)) := by
              rw [hTz.cellAt (J + 1) (by omega), List.getElem?_append_right (by simp [hyl])]; simp [hyl]
            have hct0 : wr.cell? ⟨gt, J, none⟩ = some (.slice (some ⟨gp, 0, none⟩) (D + 1) cp) := by
              rw [hTz.cellAt J (by omega), List.getElem?_append_left (by simp [hyl]), List.getElem?_append_right (by omega)]; simp [hyl]
            clear hyl
            obtain ⟨x, hx⟩ : ∃ x : Nat, x = (rows D J).getD (F + 1) 0 := ⟨_, rfl⟩
            have hxb : x ≤ 100000000 := by rw [hx]; exact rows_le D J (F + 1) h2 (by omega)
            have hcp : wr.cell? ⟨gp, F + 1, none⟩ = some (.int .i64 (x : Int)) := by
              rw [hPz.cellAt (F + 1) (by omega), hx, ← castL_get _ _ (by rw [len_rows]; omega)]
              simp [List.getD, len_castL, len_rows, show F + 1 < D + 1 by omega]
            have hlen := len_nx D (J + 1) (F + 1) (by omega)
            obtain ⟨u1, hu1⟩ : ∃ u1, wr.cell? ⟨gi, F + 1, none⟩ = some u1 := ⟨_, by rw [hRz.cellAt (F + 1) (by omega)]; exact List.getElem?_eq_getElem (by simp [hlen]; omega)⟩
            have hf := hRz.frozenAt (F + 1)
            have hgti : (Value.slice (some ⟨gt, 0, none⟩) (J + 1 + 1) ct).ownBlock ≠ some gi := fun h => hgt (by simpa [Value.ownBlock] using h)
            have hgpi2 : (Value.slice (some ⟨gp, 0, none⟩) (D + 1) cp).ownBlock ≠ some gi := fun h => hgpi (by simpa [Value.ownBlock] using h)
            by_cases hFJ : F = J
            · subst hFJ
              have hval : (rows D (F + 1)).getD (F + 1) 0 = x := by rw [rows_get D F (F + 1) he, if_neg (by omega), if_pos rfl, hx]
              have hset := nx_set D (F + 1) (F + 1) he
              rw [hval] at hset
              have hS := hRz.drew.set (F + 1) (.int .i64 (x : Int))
              rw [← List.map_set, hset] at hS
              have HS := Lib.hid hS
              have HT := Lib.hid (hTz.drew.far hgwo hgti (F + 1) (.int .i64 (x : Int)))
              have HP := Lib.hid (hPz.drew.far hgwo hgpi2 (F + 1) (.int .i64 (x : Int)))
              clear hS hset hval hx hlen hRz hTz hPz hgti hgpi2
              go_wp2_with fail
              go_region
              all_goals
                go_wp2
                go_roundw
                case rel => exact ⟨F + 1, by omega, by omega, by go_num, HS.out, HT.out, HP.out⟩
                case measure => simp [intOf]; omega
            · have hJF : J < F := by omega
              obtain ⟨y, hy⟩ : ∃ y : Nat, y = (rows D (J + 1)).getD F 0 := ⟨_, rfl⟩
              have hyb : y ≤ 100000000 := by rw [hy]; exact rows_le D (J + 1) F h2 (by omega)
              have hval : (rows D (J + 1)).getD (F + 1) 0 = x + y := by
                rw [rows_get D J (F + 1) he, if_neg (by omega), if_neg (by omega), ← hx, show F + 1 - 1 = F by omega, ← hy]
              have hset := nx_set D (J + 1) (F + 1) he
              rw [hval] at hset
              have hny := nx_get D (J + 1) (F + 1) F (by omega) (by omega)
              rw [← hy] at hny
              have hcy : wr.cell? ⟨gi, F, none⟩ = some (.int .i64 (y : Int)) := by
                rw [hRz.cellAt F (by omega), ← hny]
                simp [List.getD, hlen, show F < D + 1 by omega]
              have hS := hRz.drew.set (F + 1) (.int .i64 ((x : Int) + y))
              rw [← List.map_set, show (x : Int) + (y : Int) = ((x + y : Nat) : Int) from by omega, hset] at hS
              have HS := Lib.hid hS
              have HT := Lib.hid (hTz.drew.far hgwo hgti (F + 1) (.int .i64 ((x : Int) + y)))
              have HP := Lib.hid (hPz.drew.far hgwo hgpi2 (F + 1) (.int .i64 ((x : Int) + y)))
              have hFJb : (((F : Int) + 1) == ((J : Int) + 1)) = false := by rw [beq_eq_false_iff_ne]; omega
              clear hS hset hval hx hy hny hlen hRz hTz hPz hgti hgpi2 hFJ
              go_wp2_with fail
              go_region
              all_goals
                go_wp2
                go_roundw
                case rel => exact ⟨F + 1, by omega, by omega, by go_num, HS.out, HT.out, HP.out⟩
                case measure => simp [intOf]; omega
          · obtain rfl : F = D := by omega
            rw [nx_full] at hRz
            have HRz := Lib.hid hRz
            have HTz := Lib.hid hTz
            clear hRz hTz hPz
            go_wp2
            go_roundw
            case rel => first | exact ⟨J + 1 + 1, _, by omega, by go_num, by simp [HYL.out], HTz.out, .inr ⟨_, gi, F + 1, rfl, HRz.out⟩⟩ | ((repeat apply Exists.intro); exact ⟨⟨J + 1 + 1, _, by omega, by go_num, by simp [HYL.out], HTz.out, .inr ⟨_, gi, F + 1, rfl, HRz.out⟩⟩, rfl⟩)
            case measure => simp [intOf]; omega
    · obtain rfl : I = up + 1 := by omega
      obtain ⟨ys, gp, cp, hxs, hP⟩ := HR.out.resolve_left (by omega)
      obtain ⟨gt, N, ct, hv, hN⟩ := hT.form' (by omega)
      have hN2 : N = up + 1 := by rw [hN, hxl]
      clear hN
      subst hv
      subst hN2
      have hyl : ys.length = up := by rw [hxs] at hxl; simpa using hxl
      have hct : wo.cell? ⟨gt, up, none⟩ = some (.slice (some ⟨gp, 0, none⟩) (D + 1) cp) := by
        rw [hT.cellAt up (by omega), hxs, List.getElem?_append_right (by omega)]; simp [hyl]
      have hc : wo.cell? ⟨gp, D, none⟩ = some (.int .i64 (balV up D)) := by
        rw [hP.cellAt D (by omega)]
        unfold balV
        rw [← castL_get _ _ (by rw [len_rows]; omega)]
        simp [List.getD, len_castL, len_rows]
      have HL := Lib.hid hT.bel
      clear hT hP HR hxs hyl hxl hx16
      go_wp2
      go_ret
      exact ⟨rfl, HL.out⟩
end Go.Proofs.Ytfpdkjoimmociaa
