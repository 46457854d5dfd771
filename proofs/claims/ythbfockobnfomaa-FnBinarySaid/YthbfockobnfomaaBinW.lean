/-
  The law of binary trees, walked: draws, paths, levels and mirrors and back, the powers of a half.
-/
import Derived.Test.YthbfockobnfomaaBinB
import Derived.Test.YthbfockobnfomaaDrawB
import Derived.Test.YthbfockobnfomaaSameI
import Derived.Test.YthbfockobnfomaaBigC
namespace Go.Proofs.Ythbfockobnfomaa
open Go.RowKit
theorem getD_mem (l : List Int) (k : Nat) (h : k < l.length) : l.getD k 0 ∈ l := by
  rw [List.getD_eq_getElem?_getD, List.getElem?_eq_getElem h]; exact List.getElem_mem _
theorem pws_take (l : List Int) (k : Nat) (h : k < l.length) : pws (l.take (k + 1)) = pws (l.take k) + pw (l.getD k 0) := by
  rw [List.take_succ_eq_append_getElem h, pws_app]
  simp [pws, List.getD, h]
theorem pw_range (x : Int) : 0 ≤ pw x ∧ pw x ≤ 256 := by
  unfold pw
  have h : 256 / 2 ^ x.toNat ≤ 256 := Nat.div_le_self _ _
  obtain ⟨y, hy⟩ : ∃ y : Nat, y = 256 / 2 ^ x.toNat := ⟨_, rfl⟩
  rw [← hy] at h ⊢
  omega
theorem pws_bound (l : List Int) (_ : ∀ x ∈ l, 0 ≤ x ∧ x ≤ 8) : ∀ k, k ≤ l.length → 0 ≤ pws (l.take k) ∧ pws (l.take k) ≤ 256 * k := by
  intro k
  induction k with
  | zero => intro _; simp [pws]
  | succ k ih =>
    intro h
    have h1 := ih (by omega)
    have h2 := pw_range (l.getD k 0)
    rw [pws_take l k (by omega)]
    omega
theorem pw_step (m : Nat) (h : m < 8) : (pw (m : Int)).tdiv 2 = pw ((m + 1 : Nat) : Int) ∧ pw (m : Int) / 2 = pw ((m + 1 : Nat) : Int) := by
  match m, h with
  | 0, _ | 1, _ | 2, _ | 3, _ | 4, _ | 5, _ | 6, _ | 7, _ => decide
set_option maxRecDepth 100000 in
set_option maxHeartbeats 16000000 in
theorem law_FnBinary (A : Option Addr) (n c : Nat) (zs : List Int) (w : World) (h : Row .u8 w A n zs) : Calls Try.prog 12 #[.slice A n c] w fun e w' => e = .returned (.bool true) ∧ Below w.heap.size w w' := by
  obtain ⟨hl, _, hby, hr⟩ := h
  have HB := Lib.hid (bigC A n c w)
  by_cases hb : n ≤ 1048576
  · rw [decide_eq_false (show ¬ 1048576 < n by omega)] at HB
    have HC := Lib.hid (CodeAt.mk hr hl hb hby)
    clear hr hl hby
    go_enter Try.func12, Try.ntmps12
    go_wp2_with fail
    refine HB.out.mono ?_
    rintro e w0 ⟨rfl, rfl⟩
    go_wp2_with fail
    refine (drawPob A n c zs _ HC.out).mono ?_
    rintro e w1 ⟨⟨s, rfl, hs⟩, hb1⟩
    have B1 := Lib.hid hb1
    clear hb1
    obtain ⟨is, p, l, nn, ht, hF, hcase⟩ := bin_any s (by omega)
    have HF := Lib.hid hF
    clear hF
    rcases hcase with rfl | ⟨rfl, mt, hG⟩
    · skip
      go_wp2_with fail
      refine (HF.out.pI _).mono ?_
      rintro e w2 ⟨rfl, hb2⟩
      have B2 := Lib.hid (below_then B1.out hb2)
      clear hb2 B1
      go_wp2_with fail
      refine (HF.out.pS _).mono ?_
      rintro e w3 ⟨rfl, hb3⟩
      have B3 := Lib.hid (below_then B2.out hb3)
      clear hb3 B2
      go_wp2_with fail
      refine (HF.out.lI _).mono ?_
      rintro e w4 ⟨A4, c4, rfl, hB4⟩
      have hb4 := hB4.bel
      have RL_4 := Lib.hid hB4.rd
      clear hB4
      have B4 := Lib.hid (below_then B3.out hb4)
      clear hb4 B3
      go_wp2_with fail
      refine (HF.out.bI _).mono ?_
      rintro e w5 ⟨rfl, hb5⟩
      have RL_5 := Lib.hid (RL_4.out.keep hb5)
      clear RL_4
      have B5 := Lib.hid (below_then B4.out hb5)
      clear hb5 B4
      go_wp2_with fail
      refine (HF.out.lS _).mono ?_
      rintro e w6 ⟨A6, c6, rfl, hB6⟩
      have hb6 := hB6.bel
      have RM_6 := Lib.hid hB6.rd
      clear hB6
      have RL_6 := Lib.hid (RL_5.out.keep hb6)
      clear RL_5
      have B6 := Lib.hid (below_then B5.out hb6)
      clear hb6 B5
      go_wp2_with fail
      refine (sameC A4 A6 c4 c6 l _ RL_6.out RM_6.out (by have := HF.out.ll; omega)).mono ?_
      rintro e w7 ⟨rfl, hb7⟩
      have RL_7 := Lib.hid (RL_6.out.keep hb7)
      clear RL_6
      have RM_7 := Lib.hid (RM_6.out.keep hb7)
      clear RM_6
      have B7 := Lib.hid (below_then B6.out hb7)
      clear hb7 B6
      clear RM_7
      go_wp2_with fail
      refine (HF.out.nI _).mono ?_
      rintro e w8 ⟨rfl, hb8⟩
      have RL_8 := Lib.hid (RL_7.out.keep hb8)
      clear RL_7
      have B8 := Lib.hid (below_then B7.out hb8)
      clear hb8 B7
      go_wp2_with fail
      refine (HF.out.nS _).mono ?_
      rintro e w9 ⟨rfl, hb9⟩
      have RL_9 := Lib.hid (RL_8.out.keep hb9)
      clear RL_8
      have B9 := Lib.hid (below_then B8.out hb9)
      clear hb9 B8
      go_wp2_with fail
      refine (HF.out.hI _).mono ?_
      rintro e w10 ⟨rfl, hb10⟩
      have RL_10 := Lib.hid (RL_9.out.keep hb10)
      clear RL_9
      have B10 := Lib.hid (below_then B9.out hb10)
      clear hb10 B9
      go_wp2_with fail
      refine (HF.out.hS _).mono ?_
      rintro e w11 ⟨rfl, hb11⟩
      have RL_11 := Lib.hid (RL_10.out.keep hb11)
      clear RL_10
      have B11 := Lib.hid (below_then B10.out hb11)
      clear hb11 B10
      clear RL_11
      go_wp2_with fail
      refine (drawParts A n c zs _ (HC.out.keep B11.out)).mono ?_
      rintro e w12 ⟨⟨a, rfl, ha⟩, hb12⟩
      have B12 := Lib.hid (below_then B11.out hb12)
      clear hb12 B11
      obtain ⟨pd, pe, one, hi1, hi2, hone⟩ := parts_any a (by omega)
      have HPI := Lib.hid hi1
      have HPS := Lib.hid hi2
      clear hi1 hi2
      go_wp2_with fail
      refine (HPI.out _).mono ?_
      rintro e w13 ⟨rfl, hb13⟩
      have B13 := Lib.hid (below_then B12.out hb13)
      clear hb13 B12
      go_wp2_with fail
      refine (HPS.out _).mono ?_
      rintro e w14 ⟨rfl, hb14⟩
      have B14 := Lib.hid (below_then B13.out hb14)
      clear hb14 B13
      clear HPI HPS
      rcases hone with rfl | ⟨rfl, hpd, hpe, hpa⟩
      · skip
        go_wp2_with fail
        refine (drawLev A n c zs _ (HC.out.keep B14.out)).mono ?_
        rintro e w15 ⟨l2, hl2, Al, cl, rfl, hB15⟩
        have hb15 := hB15.bel
        have RL_15 := Lib.hid hB15.rd
        have hcap := hB15.cap
        have hcapm := hB15.capm
        obtain ⟨bs, bb, hb1, hb2⟩ := bol_law l2 (by omega)
        skip
        have HBI := Lib.hid (fun w hr => hb2 Al cl w hcap hcapm hr)
        have HBS := Lib.hid (fun w hr => hb1 Al cl w hcap hcapm hr)
        clear hb1 hb2 hcap hcapm hB15
        have B15 := Lib.hid (below_then B14.out hb15)
        clear hb15 B14
        go_wp2_with fail
        refine (HBI.out _ RL_15.out).mono ?_
        rintro e w16 ⟨rfl, hb16⟩
        have RL_16 := Lib.hid (RL_15.out.keep hb16)
        clear RL_15
        have B16 := Lib.hid (below_then B15.out hb16)
        clear hb16 B15
        go_wp2_with fail
        refine (HBS.out _ RL_16.out).mono ?_
        rintro e w17 ⟨rfl, hb17⟩
        have RL_17 := Lib.hid (RL_16.out.keep hb17)
        clear RL_16
        have B17 := Lib.hid (below_then B16.out hb17)
        clear hb17 B16
        clear RL_17
        clear HBI HBS
        go_wp2_with fail
        refine (drawBinaryOf A n c zs _ (HC.out.keep B17.out)).mono ?_
        rintro e w18 ⟨⟨q1, rfl, hq1⟩, hb18⟩
        have B18 := Lib.hid (below_then B17.out hb18)
        clear hb18 B17
        obtain ⟨r1, g1, hi1, hi2⟩ := binOf_any q1 (by omega)
        have HI1 := Lib.hid hi1
        have HI2 := Lib.hid hi2
        clear hi1 hi2
        go_wp2_with fail
        refine (HI1.out _).mono ?_
        rintro e w19 ⟨rfl, hb19⟩
        have B19 := Lib.hid (below_then B18.out hb19)
        clear hb19 B18
        go_wp2_with fail
        refine (HI2.out _).mono ?_
        rintro e w20 ⟨rfl, hb20⟩
        have B20 := Lib.hid (below_then B19.out hb20)
        clear hb20 B19
        clear HI1 HI2
        go_wp2_with fail
        refine (drawMirB A n c zs _ (HC.out.keep B20.out)).mono ?_
        rintro e w21 ⟨⟨q2, rfl, hq2⟩, hb21⟩
        have B21 := Lib.hid (below_then B20.out hb21)
        clear hb21 B20
        obtain ⟨r2, g2, hi1, hi2⟩ := mirB_any q2 (by omega)
        have HI1 := Lib.hid hi1
        have HI2 := Lib.hid hi2
        clear hi1 hi2
        go_wp2_with fail
        refine (HI1.out _).mono ?_
        rintro e w22 ⟨rfl, hb22⟩
        have B22 := Lib.hid (below_then B21.out hb22)
        clear hb22 B21
        go_wp2_with fail
        refine (HI2.out _).mono ?_
        rintro e w23 ⟨rfl, hb23⟩
        have B23 := Lib.hid (below_then B22.out hb23)
        clear hb23 B22
        clear HI1 HI2
        go_wp2_with fail
        go_ret
        exact ⟨rfl, B23.out⟩
      · skip
        replace hpa := hpa.symm
        have z1 : (⟨#[40]⟩ : ByteArray).size ≤ 1 := Nat.le_refl _
        have z2 : (⟨#[41]⟩ : ByteArray).size ≤ 1 := Nat.le_refl _
        have z3 : (⟨#[40]⟩ ++ pd : ByteArray).size ≤ 26 := by rw [ByteArray.size_append]; omega
        have z4 : (⟨#[40]⟩ ++ pd ++ pe : ByteArray).size ≤ 51 := by rw [ByteArray.size_append]; omega
        go_wp2_with fail
        refine (drawLev A n c zs _ (HC.out.keep B14.out)).mono ?_
        rintro e w15 ⟨l2, hl2, Al, cl, rfl, hB15⟩
        have hb15 := hB15.bel
        have RL_15 := Lib.hid hB15.rd
        have hcap := hB15.cap
        have hcapm := hB15.capm
        obtain ⟨bs, bb, hb1, hb2⟩ := bol_law l2 (by omega)
        skip
        have HBI := Lib.hid (fun w hr => hb2 Al cl w hcap hcapm hr)
        have HBS := Lib.hid (fun w hr => hb1 Al cl w hcap hcapm hr)
        clear hb1 hb2 hcap hcapm hB15
        have B15 := Lib.hid (below_then B14.out hb15)
        clear hb15 B14
        go_wp2_with fail
        refine (HBI.out _ RL_15.out).mono ?_
        rintro e w16 ⟨rfl, hb16⟩
        have RL_16 := Lib.hid (RL_15.out.keep hb16)
        clear RL_15
        have B16 := Lib.hid (below_then B15.out hb16)
        clear hb16 B15
        go_wp2_with fail
        refine (HBS.out _ RL_16.out).mono ?_
        rintro e w17 ⟨rfl, hb17⟩
        have RL_17 := Lib.hid (RL_16.out.keep hb17)
        clear RL_16
        have B17 := Lib.hid (below_then B16.out hb17)
        clear hb17 B16
        clear RL_17
        clear HBI HBS
        go_wp2_with fail
        refine (drawBinaryOf A n c zs _ (HC.out.keep B17.out)).mono ?_
        rintro e w18 ⟨⟨q1, rfl, hq1⟩, hb18⟩
        have B18 := Lib.hid (below_then B17.out hb18)
        clear hb18 B17
        obtain ⟨r1, g1, hi1, hi2⟩ := binOf_any q1 (by omega)
        have HI1 := Lib.hid hi1
        have HI2 := Lib.hid hi2
        clear hi1 hi2
        go_wp2_with fail
        refine (HI1.out _).mono ?_
        rintro e w19 ⟨rfl, hb19⟩
        have B19 := Lib.hid (below_then B18.out hb19)
        clear hb19 B18
        go_wp2_with fail
        refine (HI2.out _).mono ?_
        rintro e w20 ⟨rfl, hb20⟩
        have B20 := Lib.hid (below_then B19.out hb20)
        clear hb20 B19
        clear HI1 HI2
        go_wp2_with fail
        refine (drawMirB A n c zs _ (HC.out.keep B20.out)).mono ?_
        rintro e w21 ⟨⟨q2, rfl, hq2⟩, hb21⟩
        have B21 := Lib.hid (below_then B20.out hb21)
        clear hb21 B20
        obtain ⟨r2, g2, hi1, hi2⟩ := mirB_any q2 (by omega)
        have HI1 := Lib.hid hi1
        have HI2 := Lib.hid hi2
        clear hi1 hi2
        go_wp2_with fail
        refine (HI1.out _).mono ?_
        rintro e w22 ⟨rfl, hb22⟩
        have B22 := Lib.hid (below_then B21.out hb22)
        clear hb22 B21
        go_wp2_with fail
        refine (HI2.out _).mono ?_
        rintro e w23 ⟨rfl, hb23⟩
        have B23 := Lib.hid (below_then B22.out hb23)
        clear hb23 B22
        clear HI1 HI2
        go_wp2_with fail
        go_ret
        exact ⟨rfl, B23.out⟩
    · have HG := Lib.hid hG
      clear hG
      go_wp2_with fail
      refine (HF.out.pI _).mono ?_
      rintro e w2 ⟨rfl, hb2⟩
      have B2 := Lib.hid (below_then B1.out hb2)
      clear hb2 B1
      go_wp2_with fail
      refine (HF.out.pS _).mono ?_
      rintro e w3 ⟨rfl, hb3⟩
      have B3 := Lib.hid (below_then B2.out hb3)
      clear hb3 B2
      go_wp2_with fail
      refine (HF.out.lI _).mono ?_
      rintro e w4 ⟨A4, c4, rfl, hB4⟩
      have hb4 := hB4.bel
      have RL_4 := Lib.hid hB4.rd
      clear hB4
      have B4 := Lib.hid (below_then B3.out hb4)
      clear hb4 B3
      go_wp2_with fail
      refine (HF.out.bI _).mono ?_
      rintro e w5 ⟨rfl, hb5⟩
      have RL_5 := Lib.hid (RL_4.out.keep hb5)
      clear RL_4
      have B5 := Lib.hid (below_then B4.out hb5)
      clear hb5 B4
      go_wp2_with fail
      refine (HF.out.lS _).mono ?_
      rintro e w6 ⟨A6, c6, rfl, hB6⟩
      have hb6 := hB6.bel
      have RM_6 := Lib.hid hB6.rd
      clear hB6
      have RL_6 := Lib.hid (RL_5.out.keep hb6)
      clear RL_5
      have B6 := Lib.hid (below_then B5.out hb6)
      clear hb6 B5
      go_wp2_with fail
      refine (sameC A4 A6 c4 c6 l _ RL_6.out RM_6.out (by have := HF.out.ll; omega)).mono ?_
      rintro e w7 ⟨rfl, hb7⟩
      have RL_7 := Lib.hid (RL_6.out.keep hb7)
      clear RL_6
      have RM_7 := Lib.hid (RM_6.out.keep hb7)
      clear RM_6
      have B7 := Lib.hid (below_then B6.out hb7)
      clear hb7 B6
      clear RM_7
      go_wp2_with fail
      refine (HF.out.nI _).mono ?_
      rintro e w8 ⟨rfl, hb8⟩
      have RL_8 := Lib.hid (RL_7.out.keep hb8)
      clear RL_7
      have B8 := Lib.hid (below_then B7.out hb8)
      clear hb8 B7
      go_wp2_with fail
      refine (HF.out.nS _).mono ?_
      rintro e w9 ⟨rfl, hb9⟩
      have RL_9 := Lib.hid (RL_8.out.keep hb9)
      clear RL_8
      have B9 := Lib.hid (below_then B8.out hb9)
      clear hb9 B8
      go_wp2_with fail
      refine (HF.out.hI _).mono ?_
      rintro e w10 ⟨rfl, hb10⟩
      have RL_10 := Lib.hid (RL_9.out.keep hb10)
      clear RL_9
      have B10 := Lib.hid (below_then B9.out hb10)
      clear hb10 B9
      go_wp2_with fail
      refine (HF.out.hS _).mono ?_
      rintro e w11 ⟨rfl, hb11⟩
      have RL_11 := Lib.hid (RL_10.out.keep hb11)
      clear RL_10
      have B11 := Lib.hid (below_then B10.out hb11)
      clear hb11 B10
      go_wp2_with fail
      refine (HG.out.bo _).mono ?_
      rintro e w12 ⟨rfl, hb12⟩
      have RL_12 := Lib.hid (RL_11.out.keep hb12)
      clear RL_11
      have B12 := Lib.hid (below_then B11.out hb12)
      clear hb12 B11
      go_wp2_with fail
      refine (HG.out.bl A4 c4 _ RL_12.out).mono ?_
      rintro e w13 ⟨rfl, hb13⟩
      have RL_13 := Lib.hid (RL_12.out.keep hb13)
      clear RL_12
      have B13 := Lib.hid (below_then B12.out hb13)
      clear hb13 B12
      go_wp2_with fail
      refine (HG.out.mi _).mono ?_
      rintro e w14 ⟨rfl, hb14⟩
      have RL_14 := Lib.hid (RL_13.out.keep hb14)
      clear RL_13
      have B14 := Lib.hid (below_then B13.out hb14)
      clear hb14 B13
      go_wp2_with fail
      refine (HG.out.mb _).mono ?_
      rintro e w15 ⟨rfl, hb15⟩
      have RL_15 := Lib.hid (RL_14.out.keep hb15)
      clear RL_14
      have B15 := Lib.hid (below_then B14.out hb15)
      clear hb15 B14
      obtain ⟨n1, n2⟩ := HG.out.n0
      have e2 : ((l.length : Int) != nn + 1) = false := by rw [bne_eq_false_iff_eq]; exact HG.out.len
      go_wp2_with fail
      refine (HF.out.nI _).mono ?_
      rintro e w16 ⟨rfl, hb16⟩
      have RL_16 := Lib.hid (RL_15.out.keep hb16)
      clear RL_15
      have B16 := Lib.hid (below_then B15.out hb16)
      clear hb16 B15
      have HW := Lib.hid (And.intro B16.out RL_16.out)
      clear B16
      clear RL_16
      obtain ⟨Ap, hAp⟩ : ∃ Ap, Ap = A4 := ⟨_, rfl⟩
      rw [← hAp] at HW ⊢
      clear hAp A4
      obtain ⟨cp, hcp⟩ : ∃ cp, cp = c4 := ⟨_, rfl⟩
      rw [← hcp]
      clear hcp c4
      have hl9 := HF.out.ll
      skip
      go_wp2_with fail
      clear e2 n1 n2
      go_loopw [17, 18, 19, 20] (fun s i _ _ wr => ∃ k : Nat, k ≤ l.length ∧ s = .int .i64 (pws (l.take k)) ∧ i = .int .i64 (k : Int) ∧ Hid (Below w.heap.size w wr ∧ Rd .i64 wr Ap l)) (fun _ i _ _ _ => l.length - (intOf i).toNat)
      case atStart => exact ⟨0, Nat.zero_le _, rfl, rfl, HW⟩
      case round =>
        obtain ⟨k, hk, rfl, rfl, HWr⟩ := hrel
        clear HW
        have hpb := pws_bound l HG.out.small k hk
        by_cases hlt : k < l.length
        · obtain ⟨b1, o1, rfl, _, hc1⟩ := HWr.out.2 k hlt
          have hx := HG.out.small (l.getD k 0) (getD_mem l k hlt)
          have HT := Lib.hid (pws_take l k hlt)
          obtain ⟨x, hxx⟩ : ∃ x, x = l.getD k 0 := ⟨_, rfl⟩
          obtain ⟨y, hy⟩ : ∃ y, y = pws (l.take k) := ⟨_, rfl⟩
          rw [← hxx] at hc1 hx HT
          rw [← hy] at hpb HT ⊢
          have hlt' : (k : Int) < (l.length : Int) := by omega
          have hk0 : (0 : Int) ≤ (k : Int) := by omega
          clear hxx hy
          go_wp2_with fail
          go_loop [19, 20] (fun o j => ∃ (m : Nat) (z : Int), (m : Int) ≤ x ∧ o = .int .i64 z ∧ j = .int .i64 (m : Int) ∧ Hid (z = pw (m : Int)) ∧ 0 ≤ z ∧ z ≤ 256) (fun _ j => (x - intOf j).toNat)
          case atStart => exact ⟨0, 256, hx.1, rfl, rfl, rfl, by omega, by omega⟩
          case round =>
            obtain ⟨m, z, hm, rfl, rfl, HZ, hz0, hz1⟩ := hrel
            by_cases hmx : (m : Int) < x
            · have HS := Lib.hid (pw_step m (by omega))
              go_wp2_with fail
              refine ⟨⟨m + 1, z / 2, by omega, rfl, by go_num, by show _ = _; rw [HZ.out]; exact HS.out.2, by omega, by omega⟩, ?_⟩
              simp [intOf]; omega
            · obtain rfl : x = (m : Int) := by omega
              have HT2 : Hid (pws (l.take (k + 1)) = y + z) := by show _ = _; rw [HT.out, HZ.out]
              clear hmx
              go_wp2_with fail
              go_roundw
              case rel => exact ⟨k + 1, hlt, by rw [HT2.out], by go_num, HWr⟩
              case measure => simp [intOf]; omega
        · have hkm : k = l.length := by omega
          have hlt' : ¬ (k : Int) < (l.length : Int) := by omega
          have hy : pws (l.take k) = 256 := by rw [hkm, List.take_length]; exact HG.out.sum
          rw [hy] at hpb ⊢
          clear hkm hy hpb
          have B100 := Lib.hid HWr.out.1
          clear HWr
          go_wp2_with fail
          refine (drawParts A n c zs _ (HC.out.keep B100.out)).mono ?_
          rintro e w101 ⟨⟨a, rfl, ha⟩, hb101⟩
          have B101 := Lib.hid (below_then B100.out hb101)
          clear hb101 B100
          obtain ⟨pd, pe, one, hi1, hi2, hone⟩ := parts_any a (by omega)
          have HPI := Lib.hid hi1
          have HPS := Lib.hid hi2
          clear hi1 hi2
          go_wp2_with fail
          refine (HPI.out _).mono ?_
          rintro e w102 ⟨rfl, hb102⟩
          have B102 := Lib.hid (below_then B101.out hb102)
          clear hb102 B101
          go_wp2_with fail
          refine (HPS.out _).mono ?_
          rintro e w103 ⟨rfl, hb103⟩
          have B103 := Lib.hid (below_then B102.out hb103)
          clear hb103 B102
          clear HPI HPS
          rcases hone with rfl | ⟨rfl, hpd, hpe, hpa⟩
          · skip
            go_wp2_with fail
            refine (drawLev A n c zs _ (HC.out.keep B103.out)).mono ?_
            rintro e w104 ⟨l2, hl2, Al, cl, rfl, hB104⟩
            have hb104 := hB104.bel
            have RL_104 := Lib.hid hB104.rd
            have hcap := hB104.cap
            have hcapm := hB104.capm
            obtain ⟨bs, bb, hb1, hb2⟩ := bol_law l2 (by omega)
            skip
            have HBI := Lib.hid (fun w hr => hb2 Al cl w hcap hcapm hr)
            have HBS := Lib.hid (fun w hr => hb1 Al cl w hcap hcapm hr)
            clear hb1 hb2 hcap hcapm hB104
            have B104 := Lib.hid (below_then B103.out hb104)
            clear hb104 B103
            go_wp2_with fail
            refine (HBI.out _ RL_104.out).mono ?_
            rintro e w105 ⟨rfl, hb105⟩
            have RL_105 := Lib.hid (RL_104.out.keep hb105)
            clear RL_104
            have B105 := Lib.hid (below_then B104.out hb105)
            clear hb105 B104
            go_wp2_with fail
            refine (HBS.out _ RL_105.out).mono ?_
            rintro e w106 ⟨rfl, hb106⟩
            have RL_106 := Lib.hid (RL_105.out.keep hb106)
            clear RL_105
            have B106 := Lib.hid (below_then B105.out hb106)
            clear hb106 B105
            clear RL_106
            clear HBI HBS
            go_wp2_with fail
            refine (drawBinaryOf A n c zs _ (HC.out.keep B106.out)).mono ?_
            rintro e w107 ⟨⟨q1, rfl, hq1⟩, hb107⟩
            have B107 := Lib.hid (below_then B106.out hb107)
            clear hb107 B106
            obtain ⟨r1, g1, hi1, hi2⟩ := binOf_any q1 (by omega)
            have HI1 := Lib.hid hi1
            have HI2 := Lib.hid hi2
            clear hi1 hi2
            go_wp2_with fail
            refine (HI1.out _).mono ?_
            rintro e w108 ⟨rfl, hb108⟩
            have B108 := Lib.hid (below_then B107.out hb108)
            clear hb108 B107
            go_wp2_with fail
            refine (HI2.out _).mono ?_
            rintro e w109 ⟨rfl, hb109⟩
            have B109 := Lib.hid (below_then B108.out hb109)
            clear hb109 B108
            clear HI1 HI2
            go_wp2_with fail
            refine (drawMirB A n c zs _ (HC.out.keep B109.out)).mono ?_
            rintro e w110 ⟨⟨q2, rfl, hq2⟩, hb110⟩
            have B110 := Lib.hid (below_then B109.out hb110)
            clear hb110 B109
            obtain ⟨r2, g2, hi1, hi2⟩ := mirB_any q2 (by omega)
            have HI1 := Lib.hid hi1
            have HI2 := Lib.hid hi2
            clear hi1 hi2
            go_wp2_with fail
            refine (HI1.out _).mono ?_
            rintro e w111 ⟨rfl, hb111⟩
            have B111 := Lib.hid (below_then B110.out hb111)
            clear hb111 B110
            go_wp2_with fail
            refine (HI2.out _).mono ?_
            rintro e w112 ⟨rfl, hb112⟩
            have B112 := Lib.hid (below_then B111.out hb112)
            clear hb112 B111
            clear HI1 HI2
            go_wp2_with fail
            go_ret
            exact ⟨rfl, B112.out⟩
          · skip
            replace hpa := hpa.symm
            have z1 : (⟨#[40]⟩ : ByteArray).size ≤ 1 := Nat.le_refl _
            have z2 : (⟨#[41]⟩ : ByteArray).size ≤ 1 := Nat.le_refl _
            have z3 : (⟨#[40]⟩ ++ pd : ByteArray).size ≤ 26 := by rw [ByteArray.size_append]; omega
            have z4 : (⟨#[40]⟩ ++ pd ++ pe : ByteArray).size ≤ 51 := by rw [ByteArray.size_append]; omega
            go_wp2_with fail
            refine (drawLev A n c zs _ (HC.out.keep B103.out)).mono ?_
            rintro e w104 ⟨l2, hl2, Al, cl, rfl, hB104⟩
            have hb104 := hB104.bel
            have RL_104 := Lib.hid hB104.rd
            have hcap := hB104.cap
            have hcapm := hB104.capm
            obtain ⟨bs, bb, hb1, hb2⟩ := bol_law l2 (by omega)
            skip
            have HBI := Lib.hid (fun w hr => hb2 Al cl w hcap hcapm hr)
            have HBS := Lib.hid (fun w hr => hb1 Al cl w hcap hcapm hr)
            clear hb1 hb2 hcap hcapm hB104
            have B104 := Lib.hid (below_then B103.out hb104)
            clear hb104 B103
            go_wp2_with fail
            refine (HBI.out _ RL_104.out).mono ?_
            rintro e w105 ⟨rfl, hb105⟩
            have RL_105 := Lib.hid (RL_104.out.keep hb105)
            clear RL_104
            have B105 := Lib.hid (below_then B104.out hb105)
            clear hb105 B104
            go_wp2_with fail
            refine (HBS.out _ RL_105.out).mono ?_
            rintro e w106 ⟨rfl, hb106⟩
            have RL_106 := Lib.hid (RL_105.out.keep hb106)
            clear RL_105
            have B106 := Lib.hid (below_then B105.out hb106)
            clear hb106 B105
            clear RL_106
            clear HBI HBS
            go_wp2_with fail
            refine (drawBinaryOf A n c zs _ (HC.out.keep B106.out)).mono ?_
            rintro e w107 ⟨⟨q1, rfl, hq1⟩, hb107⟩
            have B107 := Lib.hid (below_then B106.out hb107)
            clear hb107 B106
            obtain ⟨r1, g1, hi1, hi2⟩ := binOf_any q1 (by omega)
            have HI1 := Lib.hid hi1
            have HI2 := Lib.hid hi2
            clear hi1 hi2
            go_wp2_with fail
            refine (HI1.out _).mono ?_
            rintro e w108 ⟨rfl, hb108⟩
            have B108 := Lib.hid (below_then B107.out hb108)
            clear hb108 B107
            go_wp2_with fail
            refine (HI2.out _).mono ?_
            rintro e w109 ⟨rfl, hb109⟩
            have B109 := Lib.hid (below_then B108.out hb109)
            clear hb109 B108
            clear HI1 HI2
            go_wp2_with fail
            refine (drawMirB A n c zs _ (HC.out.keep B109.out)).mono ?_
            rintro e w110 ⟨⟨q2, rfl, hq2⟩, hb110⟩
            have B110 := Lib.hid (below_then B109.out hb110)
            clear hb110 B109
            obtain ⟨r2, g2, hi1, hi2⟩ := mirB_any q2 (by omega)
            have HI1 := Lib.hid hi1
            have HI2 := Lib.hid hi2
            clear hi1 hi2
            go_wp2_with fail
            refine (HI1.out _).mono ?_
            rintro e w111 ⟨rfl, hb111⟩
            have B111 := Lib.hid (below_then B110.out hb111)
            clear hb111 B110
            go_wp2_with fail
            refine (HI2.out _).mono ?_
            rintro e w112 ⟨rfl, hb112⟩
            have B112 := Lib.hid (below_then B111.out hb112)
            clear hb112 B111
            clear HI1 HI2
            go_wp2_with fail
            go_ret
            exact ⟨rfl, B112.out⟩
  · rw [decide_eq_true (show 1048576 < n by omega)] at HB
    go_enter Try.func12, Try.ntmps12
    go_wp2_with fail
    refine HB.out.mono ?_
    rintro e w0 ⟨rfl, rfl⟩
    go_wp2_with fail
    go_ret
    exact ⟨rfl, Below.refl _ _⟩
end Go.Proofs.Ythbfockobnfomaa
