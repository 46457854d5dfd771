/-
  The law of plane trees, walked: draws, paths and back, mirrors, leaves and levels.
-/
import Derived.Test.YtndehfkamfmmeaaPlaneB
import Derived.Test.YtndehfkamfmmeaaDrawPl
import Derived.Test.YtndehfkamfmmeaaSameI
import Derived.Test.YtndehfkamfmmeaaBigC
namespace Go.Proofs.Ytndehfkamfmmeaa
open Go.RowKit
theorem str_full {s : ByteArray} (h : ¬ s.size = 0) : ¬ s.toList = [] ∧ s.toList.isEmpty = false := by
  have hl : s.data.toList.length = s.size := by simp
  have hn : s.data.toList ≠ [] := by intro e; rw [e] at hl; simp at hl; omega
  rw [bytes_list]
  exact ⟨hn, by simpa using hn⟩
theorem str_nil {s : ByteArray} (h : s.size = 0) : s.toList = [] ∧ s.toList.isEmpty = true := by
  have hl : s.data.toList.length = s.size := by simp
  have hn : s.data.toList = [] := List.eq_nil_of_length_eq_zero (by omega)
  rw [bytes_list, hn]
  exact ⟨rfl, rfl⟩
set_option maxRecDepth 100000 in
set_option maxHeartbeats 8000000 in
theorem law_FnPlane (A : Option Addr) (n c : Nat) (zs : List Int) (w : World) (h : Row .u8 w A n zs) : Calls Try.prog 11 #[.slice A n c] w fun e w' => e = .returned (.bool true) ∧ Below w.heap.size w w' := by
  obtain ⟨hl, _, hby, hr⟩ := h
  have HB := Lib.hid (bigC A n c w)
  by_cases hb : n ≤ 1048576
  · rw [decide_eq_false (show ¬ 1048576 < n by omega)] at HB
    have HC := Lib.hid (CodeAt.mk hr hl hb hby)
    clear hr hl hby
    go_enter Try.func11, Try.ntmps11
    go_wp2_with fail
    refine HB.out.mono ?_
    rintro e w0 ⟨rfl, rfl⟩
    go_wp2_with fail
    refine (drawPlane A n c zs _ HC.out).mono ?_
    rintro e w1 ⟨⟨s, rfl, hs⟩, hb1⟩
    have B1 := Lib.hid hb1
    clear hb1
    have hF := plane_any s (by omega)
    cases hd : dyck s.data.toList with
    | false =>
      rw [hd] at hF
      obtain ⟨L, hL⟩ : ∃ L, L = planeV s.data.toList := ⟨_, rfl⟩
      rw [← hL] at hF
      have HF := Lib.hid hF
      clear hF hd hL
      go_wp2_with fail
      refine (HF.out.pI _).mono ?_
      rintro e w2 ⟨A2, c2, rfl, hB2⟩
      have hb2 := hB2.bel
      have RP_2 := Lib.hid hB2.rd
      clear hB2
      have B2 := Lib.hid (below_then B1.out hb2)
      clear hb2 B1
      go_wp2_with fail
      refine (HF.out.pS _).mono ?_
      rintro e w3 ⟨A3, c3, rfl, hB3⟩
      have hb3 := hB3.bel
      have RQ_3 := Lib.hid hB3.rd
      clear hB3
      have RP_3 := Lib.hid (RP_2.out.keep hb3)
      clear RP_2
      have B3 := Lib.hid (below_then B2.out hb3)
      clear hb3 B2
      go_wp2_with fail
      refine (sameC A2 A3 c2 c3 L _ RP_3.out RQ_3.out (by have := HF.out.ln; omega)).mono ?_
      rintro e w4 ⟨rfl, hb4⟩
      have RP_4 := Lib.hid (RP_3.out.keep hb4)
      clear RP_3
      have RQ_4 := Lib.hid (RQ_3.out.keep hb4)
      clear RQ_3
      have B4 := Lib.hid (below_then B3.out hb4)
      clear hb4 B3
      clear RP_4
      clear RQ_4
      go_wp2_with fail
      refine (drawPop A n c zs _ (HC.out.keep B4.out)).mono ?_
      rintro e w5 ⟨l, hl, Al, cl, rfl, hB5⟩
      have hb5 := hB5.bel
      have RA_5 := Lib.hid hB5.rd
      clear hB5
      have B5 := Lib.hid (below_then B4.out hb5)
      clear hb5 B4
      obtain ⟨x1, g1, M1, V1, lv1, f1, hF1⟩ : ∃ x g M V lv f, RowF l x g M V lv f := ⟨_, _, _, _, _, _, row_any l (by omega)⟩
      have HF1 := Lib.hid hF1
      clear hF1
      go_wp2_with fail
      refine (HF1.out.poI Al cl _ RA_5.out).mono ?_
      rintro e w6 ⟨rfl, hb6⟩
      have RA_6 := Lib.hid (RA_5.out.keep hb6)
      clear RA_5
      have B6 := Lib.hid (below_then B5.out hb6)
      clear hb6 B5
      go_wp2_with fail
      refine (HF1.out.poS Al cl _ RA_6.out).mono ?_
      rintro e w7 ⟨rfl, hb7⟩
      have RA_7 := Lib.hid (RA_6.out.keep hb7)
      clear RA_6
      have B7 := Lib.hid (below_then B6.out hb7)
      clear hb7 B6
      go_wp2_with fail
      refine (drawCh A n c zs _ (HC.out.keep B7.out)).mono ?_
      rintro e w8 ⟨lb, v, hlb, Ab, cb, rfl, hB8⟩
      have hb8 := hB8.bel
      have RC_8 := Lib.hid hB8.rd
      clear hB8
      have RA_8 := Lib.hid (RA_7.out.keep hb8)
      clear RA_7
      have B8 := Lib.hid (below_then B7.out hb8)
      clear hb8 B7
      obtain ⟨x2, g2, M2, V2, lv2, f2, hF2⟩ : ∃ x g M V lv f, RowF lb x g M V lv f := ⟨_, _, _, _, _, _, row_any lb (by omega)⟩
      have HF2 := Lib.hid hF2
      clear hF2
      go_wp2_with fail
      refine (drawMir A n c zs _ (HC.out.keep B8.out)).mono ?_
      rintro e w9 ⟨lc, hlc, Ac, cc, rfl, hB9⟩
      have hb9 := hB9.bel
      have RD_9 := Lib.hid hB9.rd
      clear hB9
      have RA_9 := Lib.hid (RA_8.out.keep hb9)
      clear RA_8
      have RC_9 := Lib.hid (RC_8.out.keep hb9)
      clear RC_8
      have B9 := Lib.hid (below_then B8.out hb9)
      clear hb9 B8
      obtain ⟨x3, g3, M3, V3, lv3, f3, hF3⟩ : ∃ x g M V lv f, RowF lc x g M V lv f := ⟨_, _, _, _, _, _, row_any lc (by omega)⟩
      have HF3 := Lib.hid hF3
      clear hF3
      go_wp2_with fail
      refine (HF3.out.miI Ac cc _ RD_9.out).mono ?_
      rintro e w10 ⟨A10, c10, rfl, hB10⟩
      have hb10 := hB10.bel
      have RE_10 := Lib.hid hB10.rd
      clear hB10
      have RA_10 := Lib.hid (RA_9.out.keep hb10)
      clear RA_9
      have RC_10 := Lib.hid (RC_9.out.keep hb10)
      clear RC_9
      have RD_10 := Lib.hid (RD_9.out.keep hb10)
      clear RD_9
      have B10 := Lib.hid (below_then B9.out hb10)
      clear hb10 B9
      go_wp2_with fail
      refine (HF3.out.miS Ac cc _ RD_10.out).mono ?_
      rintro e w11 ⟨A11, c11, rfl, hB11⟩
      have hb11 := hB11.bel
      have RF_11 := Lib.hid hB11.rd
      clear hB11
      have RA_11 := Lib.hid (RA_10.out.keep hb11)
      clear RA_10
      have RC_11 := Lib.hid (RC_10.out.keep hb11)
      clear RC_10
      have RD_11 := Lib.hid (RD_10.out.keep hb11)
      clear RD_10
      have RE_11 := Lib.hid (RE_10.out.keep hb11)
      clear RE_10
      have B11 := Lib.hid (below_then B10.out hb11)
      clear hb11 B10
      clear RD_11
      go_wp2_with fail
      refine (HF1.out.isI Al cl _ RA_11.out).mono ?_
      rintro e w12 ⟨rfl, hb12⟩
      have RA_12 := Lib.hid (RA_11.out.keep hb12)
      clear RA_11
      have RC_12 := Lib.hid (RC_11.out.keep hb12)
      clear RC_11
      have RE_12 := Lib.hid (RE_11.out.keep hb12)
      clear RE_11
      have RF_12 := Lib.hid (RF_11.out.keep hb12)
      clear RF_11
      have B12 := Lib.hid (below_then B11.out hb12)
      clear hb12 B11
      go_wp2_with fail
      refine (HF2.out.chI Ab cb v _ RC_12.out).mono ?_
      rintro e w13 ⟨A13, c13, rfl, hB13⟩
      have hb13 := hB13.bel
      have RG_13 := Lib.hid hB13.rd
      clear hB13
      have RA_13 := Lib.hid (RA_12.out.keep hb13)
      clear RA_12
      have RC_13 := Lib.hid (RC_12.out.keep hb13)
      clear RC_12
      have RE_13 := Lib.hid (RE_12.out.keep hb13)
      clear RE_12
      have RF_13 := Lib.hid (RF_12.out.keep hb13)
      clear RF_12
      have B13 := Lib.hid (below_then B12.out hb13)
      clear hb13 B12
      go_wp2_with fail
      refine (HF2.out.chS Ab cb v _ RC_13.out).mono ?_
      rintro e w14 ⟨A14, c14, rfl, hB14⟩
      have hb14 := hB14.bel
      have RH_14 := Lib.hid hB14.rd
      clear hB14
      have RA_14 := Lib.hid (RA_13.out.keep hb14)
      clear RA_13
      have RC_14 := Lib.hid (RC_13.out.keep hb14)
      clear RC_13
      have RE_14 := Lib.hid (RE_13.out.keep hb14)
      clear RE_13
      have RF_14 := Lib.hid (RF_13.out.keep hb14)
      clear RF_13
      have RG_14 := Lib.hid (RG_13.out.keep hb14)
      clear RG_13
      have B14 := Lib.hid (below_then B13.out hb14)
      clear hb14 B13
      clear RC_14
      go_wp2_with fail
      refine (sameC A13 A14 c13 c14 (chV lb v) _ RG_14.out RH_14.out (by have := chV_len lb v; omega)).mono ?_
      rintro e w15 ⟨rfl, hb15⟩
      have RA_15 := Lib.hid (RA_14.out.keep hb15)
      clear RA_14
      have RE_15 := Lib.hid (RE_14.out.keep hb15)
      clear RE_14
      have RF_15 := Lib.hid (RF_14.out.keep hb15)
      clear RF_14
      have RG_15 := Lib.hid (RG_14.out.keep hb15)
      clear RG_14
      have RH_15 := Lib.hid (RH_14.out.keep hb15)
      clear RH_14
      have B15 := Lib.hid (below_then B14.out hb15)
      clear hb15 B14
      clear RG_15
      clear RH_15
      go_wp2_with fail
      refine (sameC A10 A11 c10 c11 M3 _ RE_15.out RF_15.out (by have := HF3.out.ml; omega)).mono ?_
      rintro e w16 ⟨rfl, hb16⟩
      have RA_16 := Lib.hid (RA_15.out.keep hb16)
      clear RA_15
      have RE_16 := Lib.hid (RE_15.out.keep hb16)
      clear RE_15
      have RF_16 := Lib.hid (RF_15.out.keep hb16)
      clear RF_15
      have B16 := Lib.hid (below_then B15.out hb16)
      clear hb16 B15
      clear RE_16
      clear RF_16
      go_wp2_with fail
      refine (HF1.out.lvI Al cl _ RA_16.out).mono ?_
      rintro e w17 ⟨A17, c17, rfl, hB17⟩
      have hb17 := hB17.bel
      have RG_17 := Lib.hid hB17.rd
      clear hB17
      have RA_17 := Lib.hid (RA_16.out.keep hb17)
      clear RA_16
      have B17 := Lib.hid (below_then B16.out hb17)
      clear hb17 B16
      go_wp2_with fail
      refine (HF1.out.lvS Al cl _ RA_17.out).mono ?_
      rintro e w18 ⟨A18, c18, rfl, hB18⟩
      have hb18 := hB18.bel
      have RH_18 := Lib.hid hB18.rd
      clear hB18
      have RA_18 := Lib.hid (RA_17.out.keep hb18)
      clear RA_17
      have RG_18 := Lib.hid (RG_17.out.keep hb18)
      clear RG_17
      have B18 := Lib.hid (below_then B17.out hb18)
      clear hb18 B17
      go_wp2_with fail
      refine (sameC A17 A18 c17 c18 V1 _ RG_18.out RH_18.out (by have := HF1.out.vl; omega)).mono ?_
      rintro e w19 ⟨rfl, hb19⟩
      have RA_19 := Lib.hid (RA_18.out.keep hb19)
      clear RA_18
      have RG_19 := Lib.hid (RG_18.out.keep hb19)
      clear RG_18
      have RH_19 := Lib.hid (RH_18.out.keep hb19)
      clear RH_18
      have B19 := Lib.hid (below_then B18.out hb19)
      clear hb19 B18
      clear RG_19
      clear RH_19
      go_wp2_with fail
      refine (HF1.out.lfI Al cl _ RA_19.out).mono ?_
      rintro e w20 ⟨rfl, hb20⟩
      have RA_20 := Lib.hid (RA_19.out.keep hb20)
      clear RA_19
      have B20 := Lib.hid (below_then B19.out hb20)
      clear hb20 B19
      go_wp2_with fail
      refine (HF1.out.lfS Al cl _ RA_20.out).mono ?_
      rintro e w21 ⟨rfl, hb21⟩
      have RA_21 := Lib.hid (RA_20.out.keep hb21)
      clear RA_20
      have B21 := Lib.hid (below_then B20.out hb21)
      clear hb21 B20
      go_wp2_with fail
      refine (HF1.out.fpI Al cl _ RA_21.out).mono ?_
      rintro e w22 ⟨rfl, hb22⟩
      have RA_22 := Lib.hid (RA_21.out.keep hb22)
      clear RA_21
      have B22 := Lib.hid (below_then B21.out hb22)
      clear hb22 B21
      go_wp2_with fail
      refine (HF1.out.fpS Al cl _ RA_22.out).mono ?_
      rintro e w23 ⟨rfl, hb23⟩
      have RA_23 := Lib.hid (RA_22.out.keep hb23)
      clear RA_22
      have B23 := Lib.hid (below_then B22.out hb23)
      clear hb23 B22
      go_wp2_with fail
      go_ret
      exact ⟨rfl, B23.out⟩
    | true =>
      rw [hd] at hF
      obtain ⟨M, V, lv, pk, f, ar, sz, hR, hG, hcase⟩ := plane_yes s hd
      obtain ⟨L, hL⟩ : ∃ L, L = planeV s.data.toList := ⟨_, rfl⟩
      rw [← hL] at hF hR hG
      have HF := Lib.hid hF
      have HR := Lib.hid hR
      obtain ⟨p1, p2⟩ := hG.b1
      obtain ⟨p3, p4⟩ := hG.b2
      have HG := Lib.hid hG
      clear hF hR hG hd hL
      rcases hcase with h0 | ⟨h0, rfl⟩
      · obtain ⟨i1, i2⟩ := str_nil h0
        go_wp2_with fail
        refine (HF.out.pI _).mono ?_
        rintro e w2 ⟨A2, c2, rfl, hB2⟩
        have hb2 := hB2.bel
        have RP_2 := Lib.hid hB2.rd
        clear hB2
        have B2 := Lib.hid (below_then B1.out hb2)
        clear hb2 B1
        go_wp2_with fail
        refine (HF.out.pS _).mono ?_
        rintro e w3 ⟨A3, c3, rfl, hB3⟩
        have hb3 := hB3.bel
        have RQ_3 := Lib.hid hB3.rd
        clear hB3
        have RP_3 := Lib.hid (RP_2.out.keep hb3)
        clear RP_2
        have B3 := Lib.hid (below_then B2.out hb3)
        clear hb3 B2
        go_wp2_with fail
        refine (sameC A2 A3 c2 c3 L _ RP_3.out RQ_3.out (by have := HF.out.ln; omega)).mono ?_
        rintro e w4 ⟨rfl, hb4⟩
        have RP_4 := Lib.hid (RP_3.out.keep hb4)
        clear RP_3
        have RQ_4 := Lib.hid (RQ_3.out.keep hb4)
        clear RQ_3
        have B4 := Lib.hid (below_then B3.out hb4)
        clear hb4 B3
        clear RP_4
        go_wp2_with fail
        refine (HR.out.poI A3 c3 _ RQ_4.out).mono ?_
        rintro e w5 ⟨rfl, hb5⟩
        have RQ_5 := Lib.hid (RQ_4.out.keep hb5)
        clear RQ_4
        have B5 := Lib.hid (below_then B4.out hb5)
        clear hb5 B4
        go_wp2_with fail
        refine (HR.out.miI A3 c3 _ RQ_5.out).mono ?_
        rintro e w6 ⟨A6, c6, rfl, hB6⟩
        have hb6 := hB6.bel
        have RM_6 := Lib.hid hB6.rd
        clear hB6
        have RQ_6 := Lib.hid (RQ_5.out.keep hb6)
        clear RQ_5
        have B6 := Lib.hid (below_then B5.out hb6)
        clear hb6 B5
        go_wp2_with fail
        refine (HG.out.back A6 c6 _ RM_6.out).mono ?_
        rintro e w7 ⟨A7, c7, rfl, hB7⟩
        have hb7 := hB7.bel
        have RB_7 := Lib.hid hB7.rd
        clear hB7
        have RQ_7 := Lib.hid (RQ_6.out.keep hb7)
        clear RQ_6
        have RM_7 := Lib.hid (RM_6.out.keep hb7)
        clear RM_6
        have B7 := Lib.hid (below_then B6.out hb7)
        clear hb7 B6
        clear RM_7
        go_wp2_with fail
        refine (sameC A7 A3 c7 c3 L _ RB_7.out RQ_7.out (by have := HF.out.ln; omega)).mono ?_
        rintro e w8 ⟨rfl, hb8⟩
        have RQ_8 := Lib.hid (RQ_7.out.keep hb8)
        clear RQ_7
        have RB_8 := Lib.hid (RB_7.out.keep hb8)
        clear RB_7
        have B8 := Lib.hid (below_then B7.out hb8)
        clear hb8 B7
        clear RB_8
        go_wp2_with fail
        refine (HR.out.lvI A3 c3 _ RQ_8.out).mono ?_
        rintro e w9 ⟨A9, c9, rfl, hB9⟩
        have hb9 := hB9.bel
        have RV_9 := Lib.hid hB9.rd
        clear hB9
        have RQ_9 := Lib.hid (RQ_8.out.keep hb9)
        clear RQ_8
        have B9 := Lib.hid (below_then B8.out hb9)
        clear hb9 B8
        go_wp2_with fail
        refine (HG.out.toV A9 c9 _ RV_9.out).mono ?_
        rintro e w10 ⟨rfl, hb10⟩
        have RQ_10 := Lib.hid (RQ_9.out.keep hb10)
        clear RQ_9
        have RV_10 := Lib.hid (RV_9.out.keep hb10)
        clear RV_9
        have B10 := Lib.hid (below_then B9.out hb10)
        clear hb10 B9
        clear RV_10
        go_wp2_with fail
        refine (HG.out.arI _).mono ?_
        rintro e w11 ⟨rfl, hb11⟩
        have RQ_11 := Lib.hid (RQ_10.out.keep hb11)
        clear RQ_10
        have B11 := Lib.hid (below_then B10.out hb11)
        clear hb11 B10
        go_wp2_with fail
        refine (HG.out.szS _).mono ?_
        rintro e w12 ⟨rfl, hb12⟩
        have RQ_12 := Lib.hid (RQ_11.out.keep hb12)
        clear RQ_11
        have B12 := Lib.hid (below_then B11.out hb12)
        clear hb12 B11
        clear RQ_12
        go_wp2_with fail
        refine (drawPop A n c zs _ (HC.out.keep B12.out)).mono ?_
        rintro e w13 ⟨l, hl, Al, cl, rfl, hB13⟩
        have hb13 := hB13.bel
        have RA_13 := Lib.hid hB13.rd
        clear hB13
        have B13 := Lib.hid (below_then B12.out hb13)
        clear hb13 B12
        obtain ⟨x1, g1, M1, V1, lv1, f1, hF1⟩ : ∃ x g M V lv f, RowF l x g M V lv f := ⟨_, _, _, _, _, _, row_any l (by omega)⟩
        have HF1 := Lib.hid hF1
        clear hF1
        go_wp2_with fail
        refine (HF1.out.poI Al cl _ RA_13.out).mono ?_
        rintro e w14 ⟨rfl, hb14⟩
        have RA_14 := Lib.hid (RA_13.out.keep hb14)
        clear RA_13
        have B14 := Lib.hid (below_then B13.out hb14)
        clear hb14 B13
        go_wp2_with fail
        refine (HF1.out.poS Al cl _ RA_14.out).mono ?_
        rintro e w15 ⟨rfl, hb15⟩
        have RA_15 := Lib.hid (RA_14.out.keep hb15)
        clear RA_14
        have B15 := Lib.hid (below_then B14.out hb15)
        clear hb15 B14
        go_wp2_with fail
        refine (drawCh A n c zs _ (HC.out.keep B15.out)).mono ?_
        rintro e w16 ⟨lb, v, hlb, Ab, cb, rfl, hB16⟩
        have hb16 := hB16.bel
        have RC_16 := Lib.hid hB16.rd
        clear hB16
        have RA_16 := Lib.hid (RA_15.out.keep hb16)
        clear RA_15
        have B16 := Lib.hid (below_then B15.out hb16)
        clear hb16 B15
        obtain ⟨x2, g2, M2, V2, lv2, f2, hF2⟩ : ∃ x g M V lv f, RowF lb x g M V lv f := ⟨_, _, _, _, _, _, row_any lb (by omega)⟩
        have HF2 := Lib.hid hF2
        clear hF2
        go_wp2_with fail
        refine (drawMir A n c zs _ (HC.out.keep B16.out)).mono ?_
        rintro e w17 ⟨lc, hlc, Ac, cc, rfl, hB17⟩
        have hb17 := hB17.bel
        have RD_17 := Lib.hid hB17.rd
        clear hB17
        have RA_17 := Lib.hid (RA_16.out.keep hb17)
        clear RA_16
        have RC_17 := Lib.hid (RC_16.out.keep hb17)
        clear RC_16
        have B17 := Lib.hid (below_then B16.out hb17)
        clear hb17 B16
        obtain ⟨x3, g3, M3, V3, lv3, f3, hF3⟩ : ∃ x g M V lv f, RowF lc x g M V lv f := ⟨_, _, _, _, _, _, row_any lc (by omega)⟩
        have HF3 := Lib.hid hF3
        clear hF3
        go_wp2_with fail
        refine (HF3.out.miI Ac cc _ RD_17.out).mono ?_
        rintro e w18 ⟨A18, c18, rfl, hB18⟩
        have hb18 := hB18.bel
        have RE_18 := Lib.hid hB18.rd
        clear hB18
        have RA_18 := Lib.hid (RA_17.out.keep hb18)
        clear RA_17
        have RC_18 := Lib.hid (RC_17.out.keep hb18)
        clear RC_17
        have RD_18 := Lib.hid (RD_17.out.keep hb18)
        clear RD_17
        have B18 := Lib.hid (below_then B17.out hb18)
        clear hb18 B17
        go_wp2_with fail
        refine (HF3.out.miS Ac cc _ RD_18.out).mono ?_
        rintro e w19 ⟨A19, c19, rfl, hB19⟩
        have hb19 := hB19.bel
        have RF_19 := Lib.hid hB19.rd
        clear hB19
        have RA_19 := Lib.hid (RA_18.out.keep hb19)
        clear RA_18
        have RC_19 := Lib.hid (RC_18.out.keep hb19)
        clear RC_18
        have RD_19 := Lib.hid (RD_18.out.keep hb19)
        clear RD_18
        have RE_19 := Lib.hid (RE_18.out.keep hb19)
        clear RE_18
        have B19 := Lib.hid (below_then B18.out hb19)
        clear hb19 B18
        clear RD_19
        go_wp2_with fail
        refine (HF1.out.isI Al cl _ RA_19.out).mono ?_
        rintro e w20 ⟨rfl, hb20⟩
        have RA_20 := Lib.hid (RA_19.out.keep hb20)
        clear RA_19
        have RC_20 := Lib.hid (RC_19.out.keep hb20)
        clear RC_19
        have RE_20 := Lib.hid (RE_19.out.keep hb20)
        clear RE_19
        have RF_20 := Lib.hid (RF_19.out.keep hb20)
        clear RF_19
        have B20 := Lib.hid (below_then B19.out hb20)
        clear hb20 B19
        go_wp2_with fail
        refine (HF2.out.chI Ab cb v _ RC_20.out).mono ?_
        rintro e w21 ⟨A21, c21, rfl, hB21⟩
        have hb21 := hB21.bel
        have RG_21 := Lib.hid hB21.rd
        clear hB21
        have RA_21 := Lib.hid (RA_20.out.keep hb21)
        clear RA_20
        have RC_21 := Lib.hid (RC_20.out.keep hb21)
        clear RC_20
        have RE_21 := Lib.hid (RE_20.out.keep hb21)
        clear RE_20
        have RF_21 := Lib.hid (RF_20.out.keep hb21)
        clear RF_20
        have B21 := Lib.hid (below_then B20.out hb21)
        clear hb21 B20
        go_wp2_with fail
        refine (HF2.out.chS Ab cb v _ RC_21.out).mono ?_
        rintro e w22 ⟨A22, c22, rfl, hB22⟩
        have hb22 := hB22.bel
        have RH_22 := Lib.hid hB22.rd
        clear hB22
        have RA_22 := Lib.hid (RA_21.out.keep hb22)
        clear RA_21
        have RC_22 := Lib.hid (RC_21.out.keep hb22)
        clear RC_21
        have RE_22 := Lib.hid (RE_21.out.keep hb22)
        clear RE_21
        have RF_22 := Lib.hid (RF_21.out.keep hb22)
        clear RF_21
        have RG_22 := Lib.hid (RG_21.out.keep hb22)
        clear RG_21
        have B22 := Lib.hid (below_then B21.out hb22)
        clear hb22 B21
        clear RC_22
        go_wp2_with fail
        refine (sameC A21 A22 c21 c22 (chV lb v) _ RG_22.out RH_22.out (by have := chV_len lb v; omega)).mono ?_
        rintro e w23 ⟨rfl, hb23⟩
        have RA_23 := Lib.hid (RA_22.out.keep hb23)
        clear RA_22
        have RE_23 := Lib.hid (RE_22.out.keep hb23)
        clear RE_22
        have RF_23 := Lib.hid (RF_22.out.keep hb23)
        clear RF_22
        have RG_23 := Lib.hid (RG_22.out.keep hb23)
        clear RG_22
        have RH_23 := Lib.hid (RH_22.out.keep hb23)
        clear RH_22
        have B23 := Lib.hid (below_then B22.out hb23)
        clear hb23 B22
        clear RG_23
        clear RH_23
        go_wp2_with fail
        refine (sameC A18 A19 c18 c19 M3 _ RE_23.out RF_23.out (by have := HF3.out.ml; omega)).mono ?_
        rintro e w24 ⟨rfl, hb24⟩
        have RA_24 := Lib.hid (RA_23.out.keep hb24)
        clear RA_23
        have RE_24 := Lib.hid (RE_23.out.keep hb24)
        clear RE_23
        have RF_24 := Lib.hid (RF_23.out.keep hb24)
        clear RF_23
        have B24 := Lib.hid (below_then B23.out hb24)
        clear hb24 B23
        clear RE_24
        clear RF_24
        go_wp2_with fail
        refine (HF1.out.lvI Al cl _ RA_24.out).mono ?_
        rintro e w25 ⟨A25, c25, rfl, hB25⟩
        have hb25 := hB25.bel
        have RG_25 := Lib.hid hB25.rd
        clear hB25
        have RA_25 := Lib.hid (RA_24.out.keep hb25)
        clear RA_24
        have B25 := Lib.hid (below_then B24.out hb25)
        clear hb25 B24
        go_wp2_with fail
        refine (HF1.out.lvS Al cl _ RA_25.out).mono ?_
        rintro e w26 ⟨A26, c26, rfl, hB26⟩
        have hb26 := hB26.bel
        have RH_26 := Lib.hid hB26.rd
        clear hB26
        have RA_26 := Lib.hid (RA_25.out.keep hb26)
        clear RA_25
        have RG_26 := Lib.hid (RG_25.out.keep hb26)
        clear RG_25
        have B26 := Lib.hid (below_then B25.out hb26)
        clear hb26 B25
        go_wp2_with fail
        refine (sameC A25 A26 c25 c26 V1 _ RG_26.out RH_26.out (by have := HF1.out.vl; omega)).mono ?_
        rintro e w27 ⟨rfl, hb27⟩
        have RA_27 := Lib.hid (RA_26.out.keep hb27)
        clear RA_26
        have RG_27 := Lib.hid (RG_26.out.keep hb27)
        clear RG_26
        have RH_27 := Lib.hid (RH_26.out.keep hb27)
        clear RH_26
        have B27 := Lib.hid (below_then B26.out hb27)
        clear hb27 B26
        clear RG_27
        clear RH_27
        go_wp2_with fail
        refine (HF1.out.lfI Al cl _ RA_27.out).mono ?_
        rintro e w28 ⟨rfl, hb28⟩
        have RA_28 := Lib.hid (RA_27.out.keep hb28)
        clear RA_27
        have B28 := Lib.hid (below_then B27.out hb28)
        clear hb28 B27
        go_wp2_with fail
        refine (HF1.out.lfS Al cl _ RA_28.out).mono ?_
        rintro e w29 ⟨rfl, hb29⟩
        have RA_29 := Lib.hid (RA_28.out.keep hb29)
        clear RA_28
        have B29 := Lib.hid (below_then B28.out hb29)
        clear hb29 B28
        go_wp2_with fail
        refine (HF1.out.fpI Al cl _ RA_29.out).mono ?_
        rintro e w30 ⟨rfl, hb30⟩
        have RA_30 := Lib.hid (RA_29.out.keep hb30)
        clear RA_29
        have B30 := Lib.hid (below_then B29.out hb30)
        clear hb30 B29
        go_wp2_with fail
        refine (HF1.out.fpS Al cl _ RA_30.out).mono ?_
        rintro e w31 ⟨rfl, hb31⟩
        have RA_31 := Lib.hid (RA_30.out.keep hb31)
        clear RA_30
        have B31 := Lib.hid (below_then B30.out hb31)
        clear hb31 B30
        go_wp2_with fail
        go_ret
        exact ⟨rfl, B31.out⟩
      · obtain ⟨i1, i2⟩ := str_full h0
        go_wp2_with fail
        refine (HF.out.pI _).mono ?_
        rintro e w2 ⟨A2, c2, rfl, hB2⟩
        have hb2 := hB2.bel
        have RP_2 := Lib.hid hB2.rd
        clear hB2
        have B2 := Lib.hid (below_then B1.out hb2)
        clear hb2 B1
        go_wp2_with fail
        refine (HF.out.pS _).mono ?_
        rintro e w3 ⟨A3, c3, rfl, hB3⟩
        have hb3 := hB3.bel
        have RQ_3 := Lib.hid hB3.rd
        clear hB3
        have RP_3 := Lib.hid (RP_2.out.keep hb3)
        clear RP_2
        have B3 := Lib.hid (below_then B2.out hb3)
        clear hb3 B2
        go_wp2_with fail
        refine (sameC A2 A3 c2 c3 L _ RP_3.out RQ_3.out (by have := HF.out.ln; omega)).mono ?_
        rintro e w4 ⟨rfl, hb4⟩
        have RP_4 := Lib.hid (RP_3.out.keep hb4)
        clear RP_3
        have RQ_4 := Lib.hid (RQ_3.out.keep hb4)
        clear RQ_3
        have B4 := Lib.hid (below_then B3.out hb4)
        clear hb4 B3
        clear RP_4
        go_wp2_with fail
        refine (HR.out.poI A3 c3 _ RQ_4.out).mono ?_
        rintro e w5 ⟨rfl, hb5⟩
        have RQ_5 := Lib.hid (RQ_4.out.keep hb5)
        clear RQ_4
        have B5 := Lib.hid (below_then B4.out hb5)
        clear hb5 B4
        go_wp2_with fail
        refine (HR.out.miI A3 c3 _ RQ_5.out).mono ?_
        rintro e w6 ⟨A6, c6, rfl, hB6⟩
        have hb6 := hB6.bel
        have RM_6 := Lib.hid hB6.rd
        clear hB6
        have RQ_6 := Lib.hid (RQ_5.out.keep hb6)
        clear RQ_5
        have B6 := Lib.hid (below_then B5.out hb6)
        clear hb6 B5
        go_wp2_with fail
        refine (HG.out.back A6 c6 _ RM_6.out).mono ?_
        rintro e w7 ⟨A7, c7, rfl, hB7⟩
        have hb7 := hB7.bel
        have RB_7 := Lib.hid hB7.rd
        clear hB7
        have RQ_7 := Lib.hid (RQ_6.out.keep hb7)
        clear RQ_6
        have RM_7 := Lib.hid (RM_6.out.keep hb7)
        clear RM_6
        have B7 := Lib.hid (below_then B6.out hb7)
        clear hb7 B6
        clear RM_7
        go_wp2_with fail
        refine (sameC A7 A3 c7 c3 L _ RB_7.out RQ_7.out (by have := HF.out.ln; omega)).mono ?_
        rintro e w8 ⟨rfl, hb8⟩
        have RQ_8 := Lib.hid (RQ_7.out.keep hb8)
        clear RQ_7
        have RB_8 := Lib.hid (RB_7.out.keep hb8)
        clear RB_7
        have B8 := Lib.hid (below_then B7.out hb8)
        clear hb8 B7
        clear RB_8
        go_wp2_with fail
        refine (HR.out.lfI A3 c3 _ RQ_8.out).mono ?_
        rintro e w9 ⟨rfl, hb9⟩
        have RQ_9 := Lib.hid (RQ_8.out.keep hb9)
        clear RQ_8
        have B9 := Lib.hid (below_then B8.out hb9)
        clear hb9 B8
        go_wp2_with fail
        refine (HG.out.pkI _).mono ?_
        rintro e w10 ⟨rfl, hb10⟩
        have RQ_10 := Lib.hid (RQ_9.out.keep hb10)
        clear RQ_9
        have B10 := Lib.hid (below_then B9.out hb10)
        clear hb10 B9
        go_wp2_with fail
        refine (HR.out.lvI A3 c3 _ RQ_10.out).mono ?_
        rintro e w11 ⟨A11, c11, rfl, hB11⟩
        have hb11 := hB11.bel
        have RV_11 := Lib.hid hB11.rd
        clear hB11
        have RQ_11 := Lib.hid (RQ_10.out.keep hb11)
        clear RQ_10
        have B11 := Lib.hid (below_then B10.out hb11)
        clear hb11 B10
        go_wp2_with fail
        refine (HG.out.toV A11 c11 _ RV_11.out).mono ?_
        rintro e w12 ⟨rfl, hb12⟩
        have RQ_12 := Lib.hid (RQ_11.out.keep hb12)
        clear RQ_11
        have RV_12 := Lib.hid (RV_11.out.keep hb12)
        clear RV_11
        have B12 := Lib.hid (below_then B11.out hb12)
        clear hb12 B11
        clear RV_12
        go_wp2_with fail
        refine (HG.out.arI _).mono ?_
        rintro e w13 ⟨rfl, hb13⟩
        have RQ_13 := Lib.hid (RQ_12.out.keep hb13)
        clear RQ_12
        have B13 := Lib.hid (below_then B12.out hb13)
        clear hb13 B12
        go_wp2_with fail
        refine (HG.out.szS _).mono ?_
        rintro e w14 ⟨rfl, hb14⟩
        have RQ_14 := Lib.hid (RQ_13.out.keep hb14)
        clear RQ_13
        have B14 := Lib.hid (below_then B13.out hb14)
        clear hb14 B13
        clear RQ_14
        go_wp2_with fail
        refine (drawPop A n c zs _ (HC.out.keep B14.out)).mono ?_
        rintro e w15 ⟨l, hl, Al, cl, rfl, hB15⟩
        have hb15 := hB15.bel
        have RA_15 := Lib.hid hB15.rd
        clear hB15
        have B15 := Lib.hid (below_then B14.out hb15)
        clear hb15 B14
        obtain ⟨x1, g1, M1, V1, lv1, f1, hF1⟩ : ∃ x g M V lv f, RowF l x g M V lv f := ⟨_, _, _, _, _, _, row_any l (by omega)⟩
        have HF1 := Lib.hid hF1
        clear hF1
        go_wp2_with fail
        refine (HF1.out.poI Al cl _ RA_15.out).mono ?_
        rintro e w16 ⟨rfl, hb16⟩
        have RA_16 := Lib.hid (RA_15.out.keep hb16)
        clear RA_15
        have B16 := Lib.hid (below_then B15.out hb16)
        clear hb16 B15
        go_wp2_with fail
        refine (HF1.out.poS Al cl _ RA_16.out).mono ?_
        rintro e w17 ⟨rfl, hb17⟩
        have RA_17 := Lib.hid (RA_16.out.keep hb17)
        clear RA_16
        have B17 := Lib.hid (below_then B16.out hb17)
        clear hb17 B16
        go_wp2_with fail
        refine (drawCh A n c zs _ (HC.out.keep B17.out)).mono ?_
        rintro e w18 ⟨lb, v, hlb, Ab, cb, rfl, hB18⟩
        have hb18 := hB18.bel
        have RC_18 := Lib.hid hB18.rd
        clear hB18
        have RA_18 := Lib.hid (RA_17.out.keep hb18)
        clear RA_17
        have B18 := Lib.hid (below_then B17.out hb18)
        clear hb18 B17
        obtain ⟨x2, g2, M2, V2, lv2, f2, hF2⟩ : ∃ x g M V lv f, RowF lb x g M V lv f := ⟨_, _, _, _, _, _, row_any lb (by omega)⟩
        have HF2 := Lib.hid hF2
        clear hF2
        go_wp2_with fail
        refine (drawMir A n c zs _ (HC.out.keep B18.out)).mono ?_
        rintro e w19 ⟨lc, hlc, Ac, cc, rfl, hB19⟩
        have hb19 := hB19.bel
        have RD_19 := Lib.hid hB19.rd
        clear hB19
        have RA_19 := Lib.hid (RA_18.out.keep hb19)
        clear RA_18
        have RC_19 := Lib.hid (RC_18.out.keep hb19)
        clear RC_18
        have B19 := Lib.hid (below_then B18.out hb19)
        clear hb19 B18
        obtain ⟨x3, g3, M3, V3, lv3, f3, hF3⟩ : ∃ x g M V lv f, RowF lc x g M V lv f := ⟨_, _, _, _, _, _, row_any lc (by omega)⟩
        have HF3 := Lib.hid hF3
        clear hF3
        go_wp2_with fail
        refine (HF3.out.miI Ac cc _ RD_19.out).mono ?_
        rintro e w20 ⟨A20, c20, rfl, hB20⟩
        have hb20 := hB20.bel
        have RE_20 := Lib.hid hB20.rd
        clear hB20
        have RA_20 := Lib.hid (RA_19.out.keep hb20)
        clear RA_19
        have RC_20 := Lib.hid (RC_19.out.keep hb20)
        clear RC_19
        have RD_20 := Lib.hid (RD_19.out.keep hb20)
        clear RD_19
        have B20 := Lib.hid (below_then B19.out hb20)
        clear hb20 B19
        go_wp2_with fail
        refine (HF3.out.miS Ac cc _ RD_20.out).mono ?_
        rintro e w21 ⟨A21, c21, rfl, hB21⟩
        have hb21 := hB21.bel
        have RF_21 := Lib.hid hB21.rd
        clear hB21
        have RA_21 := Lib.hid (RA_20.out.keep hb21)
        clear RA_20
        have RC_21 := Lib.hid (RC_20.out.keep hb21)
        clear RC_20
        have RD_21 := Lib.hid (RD_20.out.keep hb21)
        clear RD_20
        have RE_21 := Lib.hid (RE_20.out.keep hb21)
        clear RE_20
        have B21 := Lib.hid (below_then B20.out hb21)
        clear hb21 B20
        clear RD_21
        go_wp2_with fail
        refine (HF1.out.isI Al cl _ RA_21.out).mono ?_
        rintro e w22 ⟨rfl, hb22⟩
        have RA_22 := Lib.hid (RA_21.out.keep hb22)
        clear RA_21
        have RC_22 := Lib.hid (RC_21.out.keep hb22)
        clear RC_21
        have RE_22 := Lib.hid (RE_21.out.keep hb22)
        clear RE_21
        have RF_22 := Lib.hid (RF_21.out.keep hb22)
        clear RF_21
        have B22 := Lib.hid (below_then B21.out hb22)
        clear hb22 B21
        go_wp2_with fail
        refine (HF2.out.chI Ab cb v _ RC_22.out).mono ?_
        rintro e w23 ⟨A23, c23, rfl, hB23⟩
        have hb23 := hB23.bel
        have RG_23 := Lib.hid hB23.rd
        clear hB23
        have RA_23 := Lib.hid (RA_22.out.keep hb23)
        clear RA_22
        have RC_23 := Lib.hid (RC_22.out.keep hb23)
        clear RC_22
        have RE_23 := Lib.hid (RE_22.out.keep hb23)
        clear RE_22
        have RF_23 := Lib.hid (RF_22.out.keep hb23)
        clear RF_22
        have B23 := Lib.hid (below_then B22.out hb23)
        clear hb23 B22
        go_wp2_with fail
        refine (HF2.out.chS Ab cb v _ RC_23.out).mono ?_
        rintro e w24 ⟨A24, c24, rfl, hB24⟩
        have hb24 := hB24.bel
        have RH_24 := Lib.hid hB24.rd
        clear hB24
        have RA_24 := Lib.hid (RA_23.out.keep hb24)
        clear RA_23
        have RC_24 := Lib.hid (RC_23.out.keep hb24)
        clear RC_23
        have RE_24 := Lib.hid (RE_23.out.keep hb24)
        clear RE_23
        have RF_24 := Lib.hid (RF_23.out.keep hb24)
        clear RF_23
        have RG_24 := Lib.hid (RG_23.out.keep hb24)
        clear RG_23
        have B24 := Lib.hid (below_then B23.out hb24)
        clear hb24 B23
        clear RC_24
        go_wp2_with fail
        refine (sameC A23 A24 c23 c24 (chV lb v) _ RG_24.out RH_24.out (by have := chV_len lb v; omega)).mono ?_
        rintro e w25 ⟨rfl, hb25⟩
        have RA_25 := Lib.hid (RA_24.out.keep hb25)
        clear RA_24
        have RE_25 := Lib.hid (RE_24.out.keep hb25)
        clear RE_24
        have RF_25 := Lib.hid (RF_24.out.keep hb25)
        clear RF_24
        have RG_25 := Lib.hid (RG_24.out.keep hb25)
        clear RG_24
        have RH_25 := Lib.hid (RH_24.out.keep hb25)
        clear RH_24
        have B25 := Lib.hid (below_then B24.out hb25)
        clear hb25 B24
        clear RG_25
        clear RH_25
        go_wp2_with fail
        refine (sameC A20 A21 c20 c21 M3 _ RE_25.out RF_25.out (by have := HF3.out.ml; omega)).mono ?_
        rintro e w26 ⟨rfl, hb26⟩
        have RA_26 := Lib.hid (RA_25.out.keep hb26)
        clear RA_25
        have RE_26 := Lib.hid (RE_25.out.keep hb26)
        clear RE_25
        have RF_26 := Lib.hid (RF_25.out.keep hb26)
        clear RF_25
        have B26 := Lib.hid (below_then B25.out hb26)
        clear hb26 B25
        clear RE_26
        clear RF_26
        go_wp2_with fail
        refine (HF1.out.lvI Al cl _ RA_26.out).mono ?_
        rintro e w27 ⟨A27, c27, rfl, hB27⟩
        have hb27 := hB27.bel
        have RG_27 := Lib.hid hB27.rd
        clear hB27
        have RA_27 := Lib.hid (RA_26.out.keep hb27)
        clear RA_26
        have B27 := Lib.hid (below_then B26.out hb27)
        clear hb27 B26
        go_wp2_with fail
        refine (HF1.out.lvS Al cl _ RA_27.out).mono ?_
        rintro e w28 ⟨A28, c28, rfl, hB28⟩
        have hb28 := hB28.bel
        have RH_28 := Lib.hid hB28.rd
        clear hB28
        have RA_28 := Lib.hid (RA_27.out.keep hb28)
        clear RA_27
        have RG_28 := Lib.hid (RG_27.out.keep hb28)
        clear RG_27
        have B28 := Lib.hid (below_then B27.out hb28)
        clear hb28 B27
        go_wp2_with fail
        refine (sameC A27 A28 c27 c28 V1 _ RG_28.out RH_28.out (by have := HF1.out.vl; omega)).mono ?_
        rintro e w29 ⟨rfl, hb29⟩
        have RA_29 := Lib.hid (RA_28.out.keep hb29)
        clear RA_28
        have RG_29 := Lib.hid (RG_28.out.keep hb29)
        clear RG_28
        have RH_29 := Lib.hid (RH_28.out.keep hb29)
        clear RH_28
        have B29 := Lib.hid (below_then B28.out hb29)
        clear hb29 B28
        clear RG_29
        clear RH_29
        go_wp2_with fail
        refine (HF1.out.lfI Al cl _ RA_29.out).mono ?_
        rintro e w30 ⟨rfl, hb30⟩
        have RA_30 := Lib.hid (RA_29.out.keep hb30)
        clear RA_29
        have B30 := Lib.hid (below_then B29.out hb30)
        clear hb30 B29
        go_wp2_with fail
        refine (HF1.out.lfS Al cl _ RA_30.out).mono ?_
        rintro e w31 ⟨rfl, hb31⟩
        have RA_31 := Lib.hid (RA_30.out.keep hb31)
        clear RA_30
        have B31 := Lib.hid (below_then B30.out hb31)
        clear hb31 B30
        go_wp2_with fail
        refine (HF1.out.fpI Al cl _ RA_31.out).mono ?_
        rintro e w32 ⟨rfl, hb32⟩
        have RA_32 := Lib.hid (RA_31.out.keep hb32)
        clear RA_31
        have B32 := Lib.hid (below_then B31.out hb32)
        clear hb32 B31
        go_wp2_with fail
        refine (HF1.out.fpS Al cl _ RA_32.out).mono ?_
        rintro e w33 ⟨rfl, hb33⟩
        have RA_33 := Lib.hid (RA_32.out.keep hb33)
        clear RA_32
        have B33 := Lib.hid (below_then B32.out hb33)
        clear hb33 B32
        go_wp2_with fail
        go_ret
        exact ⟨rfl, B33.out⟩
  · rw [decide_eq_true (show 1048576 < n by omega)] at HB
    go_enter Try.func11, Try.ntmps11
    go_wp2_with fail
    refine HB.out.mono ?_
    rintro e w0 ⟨rfl, rfl⟩
    go_wp2_with fail
    go_ret
    exact ⟨rfl, Below.refl _ _⟩
end Go.Proofs.Ytndehfkamfmmeaa
