/-
  The law of paths, walked: draws, heights and back, the first return, primes, the path backwards.
-/
import Derived.Test.YtmjnafpjfodbdaaPathB
import Derived.Test.YtmjnafpjfodbdaaDraw6
import Derived.Test.YtmjnafpjfodbdaaSameI
import Derived.Test.YtmjnafpjfodbdaaSameW
import Derived.Test.YtmjnafpjfodbdaaBigC
namespace Go.Proofs.Ytmjnafpjfodbdaa
open Go.RowKit
set_option maxRecDepth 100000 in
set_option maxHeartbeats 4000000 in
theorem law_FnPaths (A : Option Addr) (n c : Nat) (zs : List Int) (w : World) (h : Row .u8 w A n zs) : Calls Try.prog 5 #[.slice A n c] w fun e w' => e = .returned (.bool true) ∧ Below w.heap.size w w' := by
  obtain ⟨hl, _, hby, hr⟩ := h
  have HB := Lib.hid (bigC A n c w)
  by_cases hb : n ≤ 1048576
  · rw [decide_eq_false (show ¬ 1048576 < n by omega)] at HB
    have HC := Lib.hid (CodeAt.mk hr hl hb hby)
    clear hr hl hby
    go_enter Try.func5, Try.ntmps5
    go_wp2_with fail
    refine HB.out.mono ?_
    rintro e w0 ⟨rfl, rfl⟩
    go_wp2_with fail
    refine (drawHeights A n c zs _ HC.out).mono ?_
    rintro e w1 ⟨⟨s, rfl, hs⟩, hb1⟩
    have B1 := Lib.hid hb1
    clear hb1
    cases hd : dyck s.data.toList with
    | false =>
      obtain ⟨x, a, b, v, H, P, S, ar, rt, pk, hF⟩ := word_no s (by omega) hd
      have HF := Lib.hid hF
      clear hF hd
      go_wp2_with fail
      refine (HF.out.hI _).mono ?_
      rintro e w2 ⟨A2, c2, rfl, hB2⟩
      have hb2 := hB2.bel
      have RH_2 := Lib.hid hB2.rd
      clear hB2
      have B2 := Lib.hid (below_then B1.out hb2)
      clear hb2 B1
      go_wp2_with fail
      refine (HF.out.pI A2 c2 _ RH_2.out).mono ?_
      rintro e w3 ⟨rfl, hb3⟩
      have RH_3 := Lib.hid (RH_2.out.keep hb3)
      clear RH_2
      have B3 := Lib.hid (below_then B2.out hb3)
      clear hb3 B2
      go_wp2_with fail
      refine (HF.out.hS _).mono ?_
      rintro e w4 ⟨A4, c4, rfl, hB4⟩
      have hb4 := hB4.bel
      have RK_4 := Lib.hid hB4.rd
      clear hB4
      have RH_4 := Lib.hid (RH_3.out.keep hb4)
      clear RH_3
      have B4 := Lib.hid (below_then B3.out hb4)
      clear hb4 B3
      go_wp2_with fail
      refine (sameC A2 A4 c2 c4 H _ RH_4.out RK_4.out (by have := HF.out.hn; omega)).mono ?_
      rintro e w5 ⟨rfl, hb5⟩
      have RH_5 := Lib.hid (RH_4.out.keep hb5)
      clear RH_4
      have RK_5 := Lib.hid (RK_4.out.keep hb5)
      clear RK_4
      have B5 := Lib.hid (below_then B4.out hb5)
      clear hb5 B4
      clear RH_5
      clear RK_5
      go_wp2_with fail
      refine (HF.out.dS _).mono ?_
      rintro e w6 ⟨rfl, hb6⟩
      have B6 := Lib.hid (below_then B5.out hb6)
      clear hb6 B5
      go_wp2_with fail
      refine (HF.out.dI _).mono ?_
      rintro e w7 ⟨rfl, hb7⟩
      have B7 := Lib.hid (below_then B6.out hb7)
      clear hb7 B6
      go_wp2_with fail
      refine (HF.out.sI _).mono ?_
      rintro e w8 ⟨rfl, hb8⟩
      have B8 := Lib.hid (below_then B7.out hb8)
      clear hb8 B7
      go_wp2_with fail
      refine (HF.out.sS _).mono ?_
      rintro e w9 ⟨rfl, hb9⟩
      have B9 := Lib.hid (below_then B8.out hb9)
      clear hb9 B8
      go_wp2_with fail
      refine (HF.out.fI _).mono ?_
      rintro e w10 ⟨rfl, hb10⟩
      have B10 := Lib.hid (below_then B9.out hb10)
      clear hb10 B9
      go_wp2_with fail
      refine (HF.out.fS _).mono ?_
      rintro e w11 ⟨rfl, hb11⟩
      have B11 := Lib.hid (below_then B10.out hb11)
      clear hb11 B10
      go_wp2_with fail
      refine (HF.out.prI _).mono ?_
      rintro e w12 ⟨A12, c12, rfl, hB12⟩
      have hb12 := hB12.bel
      have RP_12 := Lib.hid hB12.rdS
      clear hB12
      have B12 := Lib.hid (below_then B11.out hb12)
      clear hb12 B11
      have HW := Lib.hid (And.intro B12.out RP_12.out)
      clear B12
      clear RP_12
      obtain ⟨Ap, hAp⟩ : ∃ Ap, Ap = A12 := ⟨_, rfl⟩
      rw [← hAp] at HW ⊢
      clear hAp A12
      obtain ⟨cp, hcp⟩ : ∃ cp, cp = c12 := ⟨_, rfl⟩
      rw [← hcp]
      clear hcp c12
      have hm8 := HF.out.pn
      go_wp2_with fail
      go_loopw [16, 17] (fun s i wr => ∃ (k : Nat) (y : ByteArray), k ≤ P.length ∧ s = .string y ∧ i = .int .i64 (k : Int) ∧ Hid (y = catB (P.take k)) ∧ y.size ≤ 16 * k ∧ Hid (Below w.heap.size w wr ∧ RdS wr Ap P)) (fun _ i _ => P.length - (intOf i).toNat)
      case atStart => exact ⟨0, ByteArray.empty, Nat.zero_le _, rfl, rfl, rfl, by decide, HW⟩
      case round =>
        obtain ⟨k, y, hk, rfl, rfl, HY, hys, HWr⟩ := hrel
        clear HW
        by_cases hlt : k < P.length
        · obtain ⟨b1, o1, rfl, _, hc1⟩ := HWr.out.2 k hlt
          have hR := HF.out.pr1 k hlt
          have hzs := HF.out.psz k
          have HT := Lib.hid (catB_take P k hlt)
          obtain ⟨z, hz⟩ : ∃ z, z = P.getD k ByteArray.empty := ⟨_, rfl⟩
          rw [← hz] at hc1 hzs hR HT
          have HR := Lib.hid hR
          have hlt' : (k : Int) < (P.length : Int) := by omega
          have hk0 : (0 : Int) ≤ (k : Int) := by omega
          clear hz hR
          go_wp2_with fail
          refine (HR.out _).mono ?_
          rintro e wx ⟨rfl, hbx⟩
          have HW2 := Lib.hid (And.intro (below_then HWr.out.1 hbx) (HWr.out.2.keep hbx))
          clear hbx HWr
          go_wp2_with fail
          go_roundw
          case rel => exact ⟨k + 1, y ++ z, by omega, rfl, by go_num, by show _ = _; rw [HT.out, HY.out], by rw [ByteArray.size_append]; omega, HW2⟩
          case measure => simp [intOf]; omega
        · have hkm : k = P.length := by omega
          have hlt' : ¬ (k : Int) < (P.length : Int) := by omega
          have hy : y = catB P := by rw [HY.out, hkm, List.take_length]
          clear hy
          clear hkm HY
          have B100 := Lib.hid HWr.out.1
          have RP_100 := Lib.hid HWr.out.2
          clear HWr
          go_wp2_with fail
          refine (HF.out.prS _).mono ?_
          rintro e w101 ⟨A101, c101, rfl, hB101⟩
          have hb101 := hB101.bel
          have RQ_101 := Lib.hid hB101.rdS
          clear hB101
          have RP_101 := Lib.hid (RP_100.out.keep hb101)
          clear RP_100
          have B101 := Lib.hid (below_then B100.out hb101)
          clear hb101 B100
          go_wp2_with fail
          refine (sameWC Ap A101 cp c101 P _ RP_101.out RQ_101.out (by have := HF.out.pn; omega)).mono ?_
          rintro e w102 ⟨rfl, hb102⟩
          have RP_102 := Lib.hid (RP_101.out.keep hb102)
          clear RP_101
          have RQ_102 := Lib.hid (RQ_101.out.keep hb102)
          clear RQ_101
          have B102 := Lib.hid (below_then B101.out hb102)
          clear hb102 B101
          clear RP_102
          clear RQ_102
          go_wp2_with fail
          refine (HF.out.rI _).mono ?_
          rintro e w103 ⟨rfl, hb103⟩
          have B103 := Lib.hid (below_then B102.out hb103)
          clear hb103 B102
          go_wp2_with fail
          refine (HF.out.rS _).mono ?_
          rintro e w104 ⟨rfl, hb104⟩
          have B104 := Lib.hid (below_then B103.out hb104)
          clear hb104 B103
          go_wp2_with fail
          refine (drawPoh A n c zs _ (HC.out.keep B104.out)).mono ?_
          rintro e w105 ⟨l, hl, Al, cl, rfl, hB105⟩
          have hb105 := hB105.bel
          have RL_105 := Lib.hid hB105.rd
          clear hB105
          have B105 := Lib.hid (below_then B104.out hb105)
          clear hb105 B104
          have HPI := Lib.hid (fun w hr => pohI Al l.length cl l w rfl hr (by omega))
          have HPS := Lib.hid (fun w hr => pohS Al l.length cl l w rfl hr (by omega))
          obtain ⟨po, pb, hps⟩ := poh_shape l
          rw [hps] at HPI HPS
          clear hps
          go_wp2_with fail
          refine (HPI.out _ RL_105.out).mono ?_
          rintro e w106 ⟨rfl, hb106⟩
          have RL_106 := Lib.hid (RL_105.out.keep hb106)
          clear RL_105
          have B106 := Lib.hid (below_then B105.out hb106)
          clear hb106 B105
          go_wp2_with fail
          refine (HPS.out _ RL_106.out).mono ?_
          rintro e w107 ⟨rfl, hb107⟩
          have RL_107 := Lib.hid (RL_106.out.keep hb107)
          clear RL_106
          have B107 := Lib.hid (below_then B106.out hb107)
          clear hb107 B106
          clear RL_107
          clear HPI HPS
          go_wp2_with fail
          refine (drawJoin A n c zs _ (HC.out.keep B107.out)).mono ?_
          rintro e w108 ⟨⟨ja, jb, rfl, hja, hjb⟩, hb108⟩
          have B108 := Lib.hid (below_then B107.out hb108)
          clear hb108 B107
          obtain ⟨jx, jg, hji, hjs⟩ := join_any ja jb (by omega) (by omega)
          have HJI := Lib.hid hji
          have HJS := Lib.hid hjs
          clear hji hjs
          go_wp2_with fail
          refine (HJI.out _).mono ?_
          rintro e w109 ⟨rfl, hb109⟩
          have B109 := Lib.hid (below_then B108.out hb109)
          clear hb109 B108
          go_wp2_with fail
          refine (HJS.out _).mono ?_
          rintro e w110 ⟨rfl, hb110⟩
          have B110 := Lib.hid (below_then B109.out hb110)
          clear hb110 B109
          clear HJI HJS
          go_wp2_with fail
          refine (HF.out.pkI _).mono ?_
          rintro e w111 ⟨rfl, hb111⟩
          have B111 := Lib.hid (below_then B110.out hb111)
          clear hb111 B110
          go_wp2_with fail
          refine (HF.out.pkS _).mono ?_
          rintro e w112 ⟨rfl, hb112⟩
          have B112 := Lib.hid (below_then B111.out hb112)
          clear hb112 B111
          go_wp2_with fail
          refine (HF.out.rtI _).mono ?_
          rintro e w113 ⟨rfl, hb113⟩
          have B113 := Lib.hid (below_then B112.out hb113)
          clear hb113 B112
          go_wp2_with fail
          refine (HF.out.rtS _).mono ?_
          rintro e w114 ⟨rfl, hb114⟩
          have B114 := Lib.hid (below_then B113.out hb114)
          clear hb114 B113
          go_wp2_with fail
          refine (HF.out.arI _).mono ?_
          rintro e w115 ⟨rfl, hb115⟩
          have B115 := Lib.hid (below_then B114.out hb115)
          clear hb115 B114
          go_wp2_with fail
          refine (HF.out.arS _).mono ?_
          rintro e w116 ⟨rfl, hb116⟩
          have B116 := Lib.hid (below_then B115.out hb116)
          clear hb116 B115
          go_wp2_with fail
          go_ret
          exact ⟨rfl, B116.out⟩
    | true =>
      obtain ⟨t, hst, hn8⟩ := path_of_dyck' hd
      obtain ⟨one, a, b, v, H, P, S, ar, rt, pk, hF, hG, hcase⟩ := word_yes t hn8
      rw [← hst] at hF hG hcase
      have HF := Lib.hid hF
      have HG := Lib.hid hG
      clear hF hG hd hst hn8
      rcases hcase with rfl | ⟨rfl, ara, sza, arb, rb, hP⟩
      · skip
        go_wp2_with fail
        refine (HF.out.hI _).mono ?_
        rintro e w2 ⟨A2, c2, rfl, hB2⟩
        have hb2 := hB2.bel
        have RH_2 := Lib.hid hB2.rd
        clear hB2
        have B2 := Lib.hid (below_then B1.out hb2)
        clear hb2 B1
        go_wp2_with fail
        refine (HF.out.pI A2 c2 _ RH_2.out).mono ?_
        rintro e w3 ⟨rfl, hb3⟩
        have RH_3 := Lib.hid (RH_2.out.keep hb3)
        clear RH_2
        have B3 := Lib.hid (below_then B2.out hb3)
        clear hb3 B2
        go_wp2_with fail
        refine (HF.out.hS _).mono ?_
        rintro e w4 ⟨A4, c4, rfl, hB4⟩
        have hb4 := hB4.bel
        have RK_4 := Lib.hid hB4.rd
        clear hB4
        have RH_4 := Lib.hid (RH_3.out.keep hb4)
        clear RH_3
        have B4 := Lib.hid (below_then B3.out hb4)
        clear hb4 B3
        go_wp2_with fail
        refine (sameC A2 A4 c2 c4 H _ RH_4.out RK_4.out (by have := HF.out.hn; omega)).mono ?_
        rintro e w5 ⟨rfl, hb5⟩
        have RH_5 := Lib.hid (RH_4.out.keep hb5)
        clear RH_4
        have RK_5 := Lib.hid (RK_4.out.keep hb5)
        clear RK_4
        have B5 := Lib.hid (below_then B4.out hb5)
        clear hb5 B4
        clear RH_5
        clear RK_5
        go_wp2_with fail
        refine (HF.out.dS _).mono ?_
        rintro e w6 ⟨rfl, hb6⟩
        have B6 := Lib.hid (below_then B5.out hb6)
        clear hb6 B5
        go_wp2_with fail
        refine (HF.out.dI _).mono ?_
        rintro e w7 ⟨rfl, hb7⟩
        have B7 := Lib.hid (below_then B6.out hb7)
        clear hb7 B6
        go_wp2_with fail
        refine (HF.out.sI _).mono ?_
        rintro e w8 ⟨rfl, hb8⟩
        have B8 := Lib.hid (below_then B7.out hb8)
        clear hb8 B7
        go_wp2_with fail
        refine (HF.out.sS _).mono ?_
        rintro e w9 ⟨rfl, hb9⟩
        have B9 := Lib.hid (below_then B8.out hb9)
        clear hb9 B8
        go_wp2_with fail
        refine (HF.out.fI _).mono ?_
        rintro e w10 ⟨rfl, hb10⟩
        have B10 := Lib.hid (below_then B9.out hb10)
        clear hb10 B9
        go_wp2_with fail
        refine (HF.out.fS _).mono ?_
        rintro e w11 ⟨rfl, hb11⟩
        have B11 := Lib.hid (below_then B10.out hb11)
        clear hb11 B10
        go_wp2_with fail
        refine (HF.out.prI _).mono ?_
        rintro e w12 ⟨A12, c12, rfl, hB12⟩
        have hb12 := hB12.bel
        have RP_12 := Lib.hid hB12.rdS
        clear hB12
        have B12 := Lib.hid (below_then B11.out hb12)
        clear hb12 B11
        have HW := Lib.hid (And.intro B12.out RP_12.out)
        clear B12
        clear RP_12
        obtain ⟨Ap, hAp⟩ : ∃ Ap, Ap = A12 := ⟨_, rfl⟩
        rw [← hAp] at HW ⊢
        clear hAp A12
        obtain ⟨cp, hcp⟩ : ∃ cp, cp = c12 := ⟨_, rfl⟩
        rw [← hcp]
        clear hcp c12
        have hm8 := HF.out.pn
        have e2 : ((P.length : Int) != rt) = false := by rw [bne_eq_false_iff_eq]; exact HG.out.len
        go_wp2_with fail
        go_loopw [16, 17] (fun s i wr => ∃ (k : Nat) (y : ByteArray), k ≤ P.length ∧ s = .string y ∧ i = .int .i64 (k : Int) ∧ Hid (y = catB (P.take k)) ∧ y.size ≤ 16 * k ∧ Hid (Below w.heap.size w wr ∧ RdS wr Ap P)) (fun _ i _ => P.length - (intOf i).toNat)
        case atStart => exact ⟨0, ByteArray.empty, Nat.zero_le _, rfl, rfl, rfl, by decide, HW⟩
        case round =>
          obtain ⟨k, y, hk, rfl, rfl, HY, hys, HWr⟩ := hrel
          clear HW
          by_cases hlt : k < P.length
          · obtain ⟨b1, o1, rfl, _, hc1⟩ := HWr.out.2 k hlt
            have hR := HF.out.pr1 k hlt
            have hzs := HF.out.psz k
            have HT := Lib.hid (catB_take P k hlt)
            obtain ⟨z, hz⟩ : ∃ z, z = P.getD k ByteArray.empty := ⟨_, rfl⟩
            rw [← hz] at hc1 hzs hR HT
            have HR := Lib.hid hR
            have hlt' : (k : Int) < (P.length : Int) := by omega
            have hk0 : (0 : Int) ≤ (k : Int) := by omega
            clear hz hR
            go_wp2_with fail
            refine (HR.out _).mono ?_
            rintro e wx ⟨rfl, hbx⟩
            have HW2 := Lib.hid (And.intro (below_then HWr.out.1 hbx) (HWr.out.2.keep hbx))
            clear hbx HWr
            go_wp2_with fail
            go_roundw
            case rel => exact ⟨k + 1, y ++ z, by omega, rfl, by go_num, by show _ = _; rw [HT.out, HY.out], by rw [ByteArray.size_append]; omega, HW2⟩
            case measure => simp [intOf]; omega
          · have hkm : k = P.length := by omega
            have hlt' : ¬ (k : Int) < (P.length : Int) := by omega
            have hy : y = catB P := by rw [HY.out, hkm, List.take_length]
            rw [HG.out.cat] at hy
            subst hy
            clear hkm HY
            have B100 := Lib.hid HWr.out.1
            have RP_100 := Lib.hid HWr.out.2
            clear HWr
            go_wp2_with fail
            refine (HF.out.prS _).mono ?_
            rintro e w101 ⟨A101, c101, rfl, hB101⟩
            have hb101 := hB101.bel
            have RQ_101 := Lib.hid hB101.rdS
            clear hB101
            have RP_101 := Lib.hid (RP_100.out.keep hb101)
            clear RP_100
            have B101 := Lib.hid (below_then B100.out hb101)
            clear hb101 B100
            go_wp2_with fail
            refine (sameWC Ap A101 cp c101 P _ RP_101.out RQ_101.out (by have := HF.out.pn; omega)).mono ?_
            rintro e w102 ⟨rfl, hb102⟩
            have RP_102 := Lib.hid (RP_101.out.keep hb102)
            clear RP_101
            have RQ_102 := Lib.hid (RQ_101.out.keep hb102)
            clear RQ_101
            have B102 := Lib.hid (below_then B101.out hb102)
            clear hb102 B101
            clear RP_102
            clear RQ_102
            go_wp2_with fail
            refine (HF.out.rtI _).mono ?_
            rintro e w103 ⟨rfl, hb103⟩
            have B103 := Lib.hid (below_then B102.out hb103)
            clear hb103 B102
            go_wp2_with fail
            refine (HF.out.rI _).mono ?_
            rintro e w104 ⟨rfl, hb104⟩
            have B104 := Lib.hid (below_then B103.out hb104)
            clear hb104 B103
            go_wp2_with fail
            refine (HF.out.rS _).mono ?_
            rintro e w105 ⟨rfl, hb105⟩
            have B105 := Lib.hid (below_then B104.out hb105)
            clear hb105 B104
            go_wp2_with fail
            refine (HG.out.pkV _).mono ?_
            rintro e w106 ⟨rfl, hb106⟩
            have B106 := Lib.hid (below_then B105.out hb106)
            clear hb106 B105
            go_wp2_with fail
            refine (HF.out.pkI _).mono ?_
            rintro e w107 ⟨rfl, hb107⟩
            have B107 := Lib.hid (below_then B106.out hb107)
            clear hb107 B106
            go_wp2_with fail
            refine (HG.out.arV _).mono ?_
            rintro e w108 ⟨rfl, hb108⟩
            have B108 := Lib.hid (below_then B107.out hb108)
            clear hb108 B107
            go_wp2_with fail
            refine (HF.out.arI _).mono ?_
            rintro e w109 ⟨rfl, hb109⟩
            have B109 := Lib.hid (below_then B108.out hb109)
            clear hb109 B108
            go_wp2_with fail
            refine (drawPoh A n c zs _ (HC.out.keep B109.out)).mono ?_
            rintro e w110 ⟨l, hl, Al, cl, rfl, hB110⟩
            have hb110 := hB110.bel
            have RL_110 := Lib.hid hB110.rd
            clear hB110
            have B110 := Lib.hid (below_then B109.out hb110)
            clear hb110 B109
            have HPI := Lib.hid (fun w hr => pohI Al l.length cl l w rfl hr (by omega))
            have HPS := Lib.hid (fun w hr => pohS Al l.length cl l w rfl hr (by omega))
            obtain ⟨po, pb, hps⟩ := poh_shape l
            rw [hps] at HPI HPS
            clear hps
            go_wp2_with fail
            refine (HPI.out _ RL_110.out).mono ?_
            rintro e w111 ⟨rfl, hb111⟩
            have RL_111 := Lib.hid (RL_110.out.keep hb111)
            clear RL_110
            have B111 := Lib.hid (below_then B110.out hb111)
            clear hb111 B110
            go_wp2_with fail
            refine (HPS.out _ RL_111.out).mono ?_
            rintro e w112 ⟨rfl, hb112⟩
            have RL_112 := Lib.hid (RL_111.out.keep hb112)
            clear RL_111
            have B112 := Lib.hid (below_then B111.out hb112)
            clear hb112 B111
            clear RL_112
            clear HPI HPS
            go_wp2_with fail
            refine (drawJoin A n c zs _ (HC.out.keep B112.out)).mono ?_
            rintro e w113 ⟨⟨ja, jb, rfl, hja, hjb⟩, hb113⟩
            have B113 := Lib.hid (below_then B112.out hb113)
            clear hb113 B112
            obtain ⟨jx, jg, hji, hjs⟩ := join_any ja jb (by omega) (by omega)
            have HJI := Lib.hid hji
            have HJS := Lib.hid hjs
            clear hji hjs
            go_wp2_with fail
            refine (HJI.out _).mono ?_
            rintro e w114 ⟨rfl, hb114⟩
            have B114 := Lib.hid (below_then B113.out hb114)
            clear hb114 B113
            go_wp2_with fail
            refine (HJS.out _).mono ?_
            rintro e w115 ⟨rfl, hb115⟩
            have B115 := Lib.hid (below_then B114.out hb115)
            clear hb115 B114
            clear HJI HJS
            go_wp2_with fail
            refine (HF.out.pkI _).mono ?_
            rintro e w116 ⟨rfl, hb116⟩
            have B116 := Lib.hid (below_then B115.out hb116)
            clear hb116 B115
            go_wp2_with fail
            refine (HF.out.pkS _).mono ?_
            rintro e w117 ⟨rfl, hb117⟩
            have B117 := Lib.hid (below_then B116.out hb117)
            clear hb117 B116
            go_wp2_with fail
            refine (HF.out.rtI _).mono ?_
            rintro e w118 ⟨rfl, hb118⟩
            have B118 := Lib.hid (below_then B117.out hb118)
            clear hb118 B117
            go_wp2_with fail
            refine (HF.out.rtS _).mono ?_
            rintro e w119 ⟨rfl, hb119⟩
            have B119 := Lib.hid (below_then B118.out hb119)
            clear hb119 B118
            go_wp2_with fail
            refine (HF.out.arI _).mono ?_
            rintro e w120 ⟨rfl, hb120⟩
            have B120 := Lib.hid (below_then B119.out hb120)
            clear hb120 B119
            go_wp2_with fail
            refine (HF.out.arS _).mono ?_
            rintro e w121 ⟨rfl, hb121⟩
            have B121 := Lib.hid (below_then B120.out hb121)
            clear hb121 B120
            go_wp2_with fail
            go_ret
            exact ⟨rfl, B121.out⟩
      · obtain ⟨p1, p2⟩ := hP.b1
        obtain ⟨p3, p4⟩ := hP.b2
        obtain ⟨p5, p6⟩ := hP.b3
        obtain ⟨p7, p8⟩ := hP.b4
        have hs1 := hP.sum
        have hs2 := hP.ret
        subst hs1 hs2
        have HP := Lib.hid hP
        clear hP
        go_wp2_with fail
        refine (HF.out.hI _).mono ?_
        rintro e w2 ⟨A2, c2, rfl, hB2⟩
        have hb2 := hB2.bel
        have RH_2 := Lib.hid hB2.rd
        clear hB2
        have B2 := Lib.hid (below_then B1.out hb2)
        clear hb2 B1
        go_wp2_with fail
        refine (HF.out.pI A2 c2 _ RH_2.out).mono ?_
        rintro e w3 ⟨rfl, hb3⟩
        have RH_3 := Lib.hid (RH_2.out.keep hb3)
        clear RH_2
        have B3 := Lib.hid (below_then B2.out hb3)
        clear hb3 B2
        go_wp2_with fail
        refine (HF.out.hS _).mono ?_
        rintro e w4 ⟨A4, c4, rfl, hB4⟩
        have hb4 := hB4.bel
        have RK_4 := Lib.hid hB4.rd
        clear hB4
        have RH_4 := Lib.hid (RH_3.out.keep hb4)
        clear RH_3
        have B4 := Lib.hid (below_then B3.out hb4)
        clear hb4 B3
        go_wp2_with fail
        refine (sameC A2 A4 c2 c4 H _ RH_4.out RK_4.out (by have := HF.out.hn; omega)).mono ?_
        rintro e w5 ⟨rfl, hb5⟩
        have RH_5 := Lib.hid (RH_4.out.keep hb5)
        clear RH_4
        have RK_5 := Lib.hid (RK_4.out.keep hb5)
        clear RK_4
        have B5 := Lib.hid (below_then B4.out hb5)
        clear hb5 B4
        clear RH_5
        clear RK_5
        go_wp2_with fail
        refine (HF.out.dS _).mono ?_
        rintro e w6 ⟨rfl, hb6⟩
        have B6 := Lib.hid (below_then B5.out hb6)
        clear hb6 B5
        go_wp2_with fail
        refine (HF.out.dI _).mono ?_
        rintro e w7 ⟨rfl, hb7⟩
        have B7 := Lib.hid (below_then B6.out hb7)
        clear hb7 B6
        go_wp2_with fail
        refine (HF.out.sI _).mono ?_
        rintro e w8 ⟨rfl, hb8⟩
        have B8 := Lib.hid (below_then B7.out hb8)
        clear hb8 B7
        go_wp2_with fail
        refine (HF.out.sS _).mono ?_
        rintro e w9 ⟨rfl, hb9⟩
        have B9 := Lib.hid (below_then B8.out hb9)
        clear hb9 B8
        go_wp2_with fail
        refine (HF.out.fI _).mono ?_
        rintro e w10 ⟨rfl, hb10⟩
        have B10 := Lib.hid (below_then B9.out hb10)
        clear hb10 B9
        go_wp2_with fail
        refine (HF.out.fS _).mono ?_
        rintro e w11 ⟨rfl, hb11⟩
        have B11 := Lib.hid (below_then B10.out hb11)
        clear hb11 B10
        go_wp2_with fail
        refine (HP.out.jI _).mono ?_
        rintro e w12 ⟨rfl, hb12⟩
        have B12 := Lib.hid (below_then B11.out hb12)
        clear hb12 B11
        go_wp2_with fail
        refine (HF.out.arI _).mono ?_
        rintro e w13 ⟨rfl, hb13⟩
        have B13 := Lib.hid (below_then B12.out hb13)
        clear hb13 B12
        go_wp2_with fail
        refine (HP.out.arA _).mono ?_
        rintro e w14 ⟨rfl, hb14⟩
        have B14 := Lib.hid (below_then B13.out hb14)
        clear hb14 B13
        go_wp2_with fail
        refine (HP.out.szA _).mono ?_
        rintro e w15 ⟨rfl, hb15⟩
        have B15 := Lib.hid (below_then B14.out hb15)
        clear hb15 B14
        go_wp2_with fail
        refine (HP.out.arB _).mono ?_
        rintro e w16 ⟨rfl, hb16⟩
        have B16 := Lib.hid (below_then B15.out hb16)
        clear hb16 B15
        go_wp2_with fail
        refine (HF.out.rtI _).mono ?_
        rintro e w17 ⟨rfl, hb17⟩
        have B17 := Lib.hid (below_then B16.out hb17)
        clear hb17 B16
        go_wp2_with fail
        refine (HP.out.rtB _).mono ?_
        rintro e w18 ⟨rfl, hb18⟩
        have B18 := Lib.hid (below_then B17.out hb18)
        clear hb18 B17
        go_wp2_with fail
        refine (HF.out.prI _).mono ?_
        rintro e w19 ⟨A19, c19, rfl, hB19⟩
        have hb19 := hB19.bel
        have RP_19 := Lib.hid hB19.rdS
        clear hB19
        have B19 := Lib.hid (below_then B18.out hb19)
        clear hb19 B18
        have HW := Lib.hid (And.intro B19.out RP_19.out)
        clear B19
        clear RP_19
        obtain ⟨Ap, hAp⟩ : ∃ Ap, Ap = A19 := ⟨_, rfl⟩
        rw [← hAp] at HW ⊢
        clear hAp A19
        obtain ⟨cp, hcp⟩ : ∃ cp, cp = c19 := ⟨_, rfl⟩
        rw [← hcp]
        clear hcp c19
        have hm8 := HF.out.pn
        have e2 : ((P.length : Int) != 1 + rb) = false := by rw [bne_eq_false_iff_eq]; exact HG.out.len
        go_wp2_with fail
        go_loopw [16, 17] (fun s i wr => ∃ (k : Nat) (y : ByteArray), k ≤ P.length ∧ s = .string y ∧ i = .int .i64 (k : Int) ∧ Hid (y = catB (P.take k)) ∧ y.size ≤ 16 * k ∧ Hid (Below w.heap.size w wr ∧ RdS wr Ap P)) (fun _ i _ => P.length - (intOf i).toNat)
        case atStart => exact ⟨0, ByteArray.empty, Nat.zero_le _, rfl, rfl, rfl, by decide, HW⟩
        case round =>
          obtain ⟨k, y, hk, rfl, rfl, HY, hys, HWr⟩ := hrel
          clear HW
          by_cases hlt : k < P.length
          · obtain ⟨b1, o1, rfl, _, hc1⟩ := HWr.out.2 k hlt
            have hR := HF.out.pr1 k hlt
            have hzs := HF.out.psz k
            have HT := Lib.hid (catB_take P k hlt)
            obtain ⟨z, hz⟩ : ∃ z, z = P.getD k ByteArray.empty := ⟨_, rfl⟩
            rw [← hz] at hc1 hzs hR HT
            have HR := Lib.hid hR
            have hlt' : (k : Int) < (P.length : Int) := by omega
            have hk0 : (0 : Int) ≤ (k : Int) := by omega
            clear hz hR
            go_wp2_with fail
            refine (HR.out _).mono ?_
            rintro e wx ⟨rfl, hbx⟩
            have HW2 := Lib.hid (And.intro (below_then HWr.out.1 hbx) (HWr.out.2.keep hbx))
            clear hbx HWr
            go_wp2_with fail
            go_roundw
            case rel => exact ⟨k + 1, y ++ z, by omega, rfl, by go_num, by show _ = _; rw [HT.out, HY.out], by rw [ByteArray.size_append]; omega, HW2⟩
            case measure => simp [intOf]; omega
          · have hkm : k = P.length := by omega
            have hlt' : ¬ (k : Int) < (P.length : Int) := by omega
            have hy : y = catB P := by rw [HY.out, hkm, List.take_length]
            rw [HG.out.cat] at hy
            subst hy
            clear hkm HY
            have B100 := Lib.hid HWr.out.1
            have RP_100 := Lib.hid HWr.out.2
            clear HWr
            go_wp2_with fail
            refine (HF.out.prS _).mono ?_
            rintro e w101 ⟨A101, c101, rfl, hB101⟩
            have hb101 := hB101.bel
            have RQ_101 := Lib.hid hB101.rdS
            clear hB101
            have RP_101 := Lib.hid (RP_100.out.keep hb101)
            clear RP_100
            have B101 := Lib.hid (below_then B100.out hb101)
            clear hb101 B100
            go_wp2_with fail
            refine (sameWC Ap A101 cp c101 P _ RP_101.out RQ_101.out (by have := HF.out.pn; omega)).mono ?_
            rintro e w102 ⟨rfl, hb102⟩
            have RP_102 := Lib.hid (RP_101.out.keep hb102)
            clear RP_101
            have RQ_102 := Lib.hid (RQ_101.out.keep hb102)
            clear RQ_101
            have B102 := Lib.hid (below_then B101.out hb102)
            clear hb102 B101
            clear RP_102
            clear RQ_102
            go_wp2_with fail
            refine (HF.out.rtI _).mono ?_
            rintro e w103 ⟨rfl, hb103⟩
            have B103 := Lib.hid (below_then B102.out hb103)
            clear hb103 B102
            go_wp2_with fail
            refine (HF.out.rI _).mono ?_
            rintro e w104 ⟨rfl, hb104⟩
            have B104 := Lib.hid (below_then B103.out hb104)
            clear hb104 B103
            go_wp2_with fail
            refine (HF.out.rS _).mono ?_
            rintro e w105 ⟨rfl, hb105⟩
            have B105 := Lib.hid (below_then B104.out hb105)
            clear hb105 B104
            go_wp2_with fail
            refine (HG.out.pkV _).mono ?_
            rintro e w106 ⟨rfl, hb106⟩
            have B106 := Lib.hid (below_then B105.out hb106)
            clear hb106 B105
            go_wp2_with fail
            refine (HF.out.pkI _).mono ?_
            rintro e w107 ⟨rfl, hb107⟩
            have B107 := Lib.hid (below_then B106.out hb107)
            clear hb107 B106
            go_wp2_with fail
            refine (HG.out.arV _).mono ?_
            rintro e w108 ⟨rfl, hb108⟩
            have B108 := Lib.hid (below_then B107.out hb108)
            clear hb108 B107
            go_wp2_with fail
            refine (HF.out.arI _).mono ?_
            rintro e w109 ⟨rfl, hb109⟩
            have B109 := Lib.hid (below_then B108.out hb109)
            clear hb109 B108
            go_wp2_with fail
            refine (drawPoh A n c zs _ (HC.out.keep B109.out)).mono ?_
            rintro e w110 ⟨l, hl, Al, cl, rfl, hB110⟩
            have hb110 := hB110.bel
            have RL_110 := Lib.hid hB110.rd
            clear hB110
            have B110 := Lib.hid (below_then B109.out hb110)
            clear hb110 B109
            have HPI := Lib.hid (fun w hr => pohI Al l.length cl l w rfl hr (by omega))
            have HPS := Lib.hid (fun w hr => pohS Al l.length cl l w rfl hr (by omega))
            obtain ⟨po, pb, hps⟩ := poh_shape l
            rw [hps] at HPI HPS
            clear hps
            go_wp2_with fail
            refine (HPI.out _ RL_110.out).mono ?_
            rintro e w111 ⟨rfl, hb111⟩
            have RL_111 := Lib.hid (RL_110.out.keep hb111)
            clear RL_110
            have B111 := Lib.hid (below_then B110.out hb111)
            clear hb111 B110
            go_wp2_with fail
            refine (HPS.out _ RL_111.out).mono ?_
            rintro e w112 ⟨rfl, hb112⟩
            have RL_112 := Lib.hid (RL_111.out.keep hb112)
            clear RL_111
            have B112 := Lib.hid (below_then B111.out hb112)
            clear hb112 B111
            clear RL_112
            clear HPI HPS
            go_wp2_with fail
            refine (drawJoin A n c zs _ (HC.out.keep B112.out)).mono ?_
            rintro e w113 ⟨⟨ja, jb, rfl, hja, hjb⟩, hb113⟩
            have B113 := Lib.hid (below_then B112.out hb113)
            clear hb113 B112
            obtain ⟨jx, jg, hji, hjs⟩ := join_any ja jb (by omega) (by omega)
            have HJI := Lib.hid hji
            have HJS := Lib.hid hjs
            clear hji hjs
            go_wp2_with fail
            refine (HJI.out _).mono ?_
            rintro e w114 ⟨rfl, hb114⟩
            have B114 := Lib.hid (below_then B113.out hb114)
            clear hb114 B113
            go_wp2_with fail
            refine (HJS.out _).mono ?_
            rintro e w115 ⟨rfl, hb115⟩
            have B115 := Lib.hid (below_then B114.out hb115)
            clear hb115 B114
            clear HJI HJS
            go_wp2_with fail
            refine (HF.out.pkI _).mono ?_
            rintro e w116 ⟨rfl, hb116⟩
            have B116 := Lib.hid (below_then B115.out hb116)
            clear hb116 B115
            go_wp2_with fail
            refine (HF.out.pkS _).mono ?_
            rintro e w117 ⟨rfl, hb117⟩
            have B117 := Lib.hid (below_then B116.out hb117)
            clear hb117 B116
            go_wp2_with fail
            refine (HF.out.rtI _).mono ?_
            rintro e w118 ⟨rfl, hb118⟩
            have B118 := Lib.hid (below_then B117.out hb118)
            clear hb118 B117
            go_wp2_with fail
            refine (HF.out.rtS _).mono ?_
            rintro e w119 ⟨rfl, hb119⟩
            have B119 := Lib.hid (below_then B118.out hb119)
            clear hb119 B118
            go_wp2_with fail
            refine (HF.out.arI _).mono ?_
            rintro e w120 ⟨rfl, hb120⟩
            have B120 := Lib.hid (below_then B119.out hb120)
            clear hb120 B119
            go_wp2_with fail
            refine (HF.out.arS _).mono ?_
            rintro e w121 ⟨rfl, hb121⟩
            have B121 := Lib.hid (below_then B120.out hb121)
            clear hb121 B120
            go_wp2_with fail
            go_ret
            exact ⟨rfl, B121.out⟩
  · rw [decide_eq_true (show 1048576 < n by omega)] at HB
    go_enter Try.func5, Try.ntmps5
    go_wp2_with fail
    refine HB.out.mono ?_
    rintro e w0 ⟨rfl, rfl⟩
    go_wp2_with fail
    go_ret
    exact ⟨rfl, Below.refl _ _⟩
end Go.Proofs.Ytmjnafpjfodbdaa
