/-
  The law of the integer encodings, walked.
-/
import Derived.Test.YtndehfkamfmmeaaEncL
import Derived.Test.YtndehfkamfmmeaaIntArg
namespace Go.Proofs.Ytndehfkamfmmeaa
open Go.RowKit
theorem str_pos {s : ByteArray} (h : 0 < s.size) : ¬ s.toList = [] ∧ s.toList.isEmpty = false := by
  have hl : s.data.toList.length = s.size := by simp
  have hn : s.data.toList ≠ [] := by intro e; rw [e] at hl; simp at hl; omega
  rw [bytes_list]
  exact ⟨hn, by simpa using hn⟩
set_option maxRecDepth 100000 in
set_option maxHeartbeats 4000000 in
theorem law_FnIntegerEncodings (A : Option Addr) (n c : Nat) (zs : List Int) (w : World) (h : Row .u8 w A n zs) : Calls Try.prog 13 #[.slice A n c] w fun e w' => e = .returned (.bool true) ∧ Below w.heap.size w w' := by
  obtain ⟨hl, _, hby, hr⟩ := h
  have HB := Lib.hid (bigC A n c w)
  by_cases hb : n ≤ 1048576
  · rw [decide_eq_false (show ¬ 1048576 < n by omega)] at HB
    have HC := Lib.hid (CodeAt.mk hr hl hb hby)
    clear hr hl hby
    go_enter Try.func13, Try.ntmps13
    go_wp2_with fail
    refine HB.out.mono ?_
    rintro e w0 ⟨rfl, rfl⟩
    go_wp2_with fail
    refine (drawVarint A n c zs _ HC.out).mono ?_
    rintro e w1 ⟨⟨x0, rfl, hx1, hx2⟩, hb1⟩
    have B1 := Lib.hid hb1
    clear hb1
    go_wp2_with fail
    refine (drawHex A n c zs _ (HC.out.keep B1.out)).mono ?_
    rintro e w2 ⟨⟨tail, rfl, ht⟩, hb2⟩
    have B2 := Lib.hid (below_then B1.out hb2)
    clear hb2 B1
    obtain ⟨s, hE, hs8, x, k, hD, hcase⟩ := varBoth x0 tail ht
    have HE := Lib.hid hE
    have HD := Lib.hid hD
    clear hE hD
    go_wp2_with fail
    refine (HE.out _).mono ?_
    rintro e w3 ⟨rfl, hb3⟩
    have B3 := Lib.hid (below_then B2.out hb3)
    clear hb3 B2
    go_wp2_with fail
    refine (HD.out _).mono ?_
    rintro e w4 ⟨rfl, hb4⟩
    have B4 := Lib.hid (below_then B3.out hb4)
    clear hb4 B3
    rcases hcase with ⟨c1, c2, c3, rfl, rfl⟩ | ⟨c1, rfl⟩
    · obtain ⟨i1, i2⟩ := str_pos c3
      go_wp2_with fail
      refine (drawFixed A n c zs _ (HC.out.keep B4.out)).mono ?_
      rintro e w5 ⟨⟨y0, m, rfl, hy, hm1, hm2⟩, hb5⟩
      have B5 := Lib.hid (below_then B4.out hb5)
      clear hb5 B4
      obtain ⟨f, hI, hS, hf8, y, is, hDF, hxc⟩ := fixBoth y0 m hy.1 hy.2 tail ht
      have hI := Lib.hid hI
      have hS := Lib.hid hS
      have hDF := Lib.hid hDF
      obtain ⟨hx, hP, hxs, hQ⟩ := hexBoth tail ht
      have hP := Lib.hid hP
      have hQ := Lib.hid hQ
      obtain ⟨d, hF, hG, z, g, hZ, hfc⟩ := fmtBoth y0 hy.1 hy.2
      have hF := Lib.hid hF
      have hG := Lib.hid hG
      have hZ := Lib.hid hZ
      go_wp2_with fail
      refine (hI.out _).mono ?_
      rintro e w6 ⟨rfl, hb6⟩
      have B6 := Lib.hid (below_then B5.out hb6)
      clear hb6 B5
      go_wp2_with fail
      refine (hDF.out _).mono ?_
      rintro e w6b ⟨rfl, rfl⟩
      rcases hxc with ⟨g1, rfl, g2, rfl⟩ | rfl
      · have g3 := g2.symm
        subst g3
        obtain ⟨j1, j2⟩ := str_pos g1
        go_wp2_with fail
        refine (hS.out _).mono ?_
        rintro e w7 ⟨rfl, hb7⟩
        have B7 := Lib.hid (below_then B6.out hb7)
        clear hb7 B6
        go_wp2_with fail
        refine (hP.out _).mono ?_
        rintro e w8 ⟨rfl, hb8⟩
        have B8 := Lib.hid (below_then B7.out hb8)
        clear hb8 B7
        go_wp2_with fail
        refine (hQ.out _).mono ?_
        rintro e w9 ⟨rfl, hb9⟩
        have B9 := Lib.hid (below_then B8.out hb9)
        clear hb9 B8
        go_wp2_with fail
        refine (hF.out _).mono ?_
        rintro e w9b ⟨rfl, hb9b⟩
        have B9b := Lib.hid (below_then B9.out hb9b)
        clear hb9b B9
        go_wp2_with fail
        refine (hZ.out _).mono ?_
        rintro e w10 ⟨rfl, hb10⟩
        have B10 := Lib.hid (below_then B9b.out hb10)
        clear hb10 B9b
        rcases hfc with ⟨rfl, q2, r1, r2⟩ | ⟨rfl, r1⟩
        · have q3 := q2.symm
          subst q3
          go_wp2_with fail
          refine (hG.out _).mono ?_
          rintro e w11 ⟨rfl, hb11⟩
          have B11 := Lib.hid (below_then B10.out hb11)
          clear hb11 B10
          go_wp2_with fail
          go_ret
          exact ⟨rfl, B11.out⟩
        · by_cases r2 : -1000000000 < y0
          · have r3 : ¬ y0 < 1000000000 := fun h => r1 ⟨r2, h⟩
            go_wp2_with fail
            refine (hG.out _).mono ?_
            rintro e w11 ⟨rfl, hb11⟩
            have B11 := Lib.hid (below_then B10.out hb11)
            clear hb11 B10
            go_wp2_with fail
            go_ret
            exact ⟨by first | rfl | simp [r3], B11.out⟩
          · go_wp2_with fail
            refine (hG.out _).mono ?_
            rintro e w11 ⟨rfl, hb11⟩
            have B11 := Lib.hid (below_then B10.out hb11)
            clear hb11 B10
            go_wp2_with fail
            go_ret
            exact ⟨rfl, B11.out⟩
      · go_wp2_with fail
        refine (hS.out _).mono ?_
        rintro e w7 ⟨rfl, hb7⟩
        have B7 := Lib.hid (below_then B6.out hb7)
        clear hb7 B6
        go_wp2_with fail
        refine (hP.out _).mono ?_
        rintro e w8 ⟨rfl, hb8⟩
        have B8 := Lib.hid (below_then B7.out hb8)
        clear hb8 B7
        go_wp2_with fail
        refine (hQ.out _).mono ?_
        rintro e w9 ⟨rfl, hb9⟩
        have B9 := Lib.hid (below_then B8.out hb9)
        clear hb9 B8
        go_wp2_with fail
        refine (hF.out _).mono ?_
        rintro e w9b ⟨rfl, hb9b⟩
        have B9b := Lib.hid (below_then B9.out hb9b)
        clear hb9b B9
        go_wp2_with fail
        refine (hZ.out _).mono ?_
        rintro e w10 ⟨rfl, hb10⟩
        have B10 := Lib.hid (below_then B9b.out hb10)
        clear hb10 B9b
        rcases hfc with ⟨rfl, q2, r1, r2⟩ | ⟨rfl, r1⟩
        · have q3 := q2.symm
          subst q3
          go_wp2_with fail
          refine (hG.out _).mono ?_
          rintro e w11 ⟨rfl, hb11⟩
          have B11 := Lib.hid (below_then B10.out hb11)
          clear hb11 B10
          go_wp2_with fail
          go_ret
          exact ⟨rfl, B11.out⟩
        · by_cases r2 : -1000000000 < y0
          · have r3 : ¬ y0 < 1000000000 := fun h => r1 ⟨r2, h⟩
            go_wp2_with fail
            refine (hG.out _).mono ?_
            rintro e w11 ⟨rfl, hb11⟩
            have B11 := Lib.hid (below_then B10.out hb11)
            clear hb11 B10
            go_wp2_with fail
            go_ret
            exact ⟨by first | rfl | simp [r3], B11.out⟩
          · go_wp2_with fail
            refine (hG.out _).mono ?_
            rintro e w11 ⟨rfl, hb11⟩
            have B11 := Lib.hid (below_then B10.out hb11)
            clear hb11 B10
            go_wp2_with fail
            go_ret
            exact ⟨rfl, B11.out⟩
    · rcases c1 with c1 | c1
      · go_wp2_with fail
        refine (drawFixed A n c zs _ (HC.out.keep B4.out)).mono ?_
        rintro e w5 ⟨⟨y0, m, rfl, hy, hm1, hm2⟩, hb5⟩
        have B5 := Lib.hid (below_then B4.out hb5)
        clear hb5 B4
        obtain ⟨f, hI, hS, hf8, y, is, hDF, hxc⟩ := fixBoth y0 m hy.1 hy.2 tail ht
        have hI := Lib.hid hI
        have hS := Lib.hid hS
        have hDF := Lib.hid hDF
        obtain ⟨hx, hP, hxs, hQ⟩ := hexBoth tail ht
        have hP := Lib.hid hP
        have hQ := Lib.hid hQ
        obtain ⟨d, hF, hG, z, g, hZ, hfc⟩ := fmtBoth y0 hy.1 hy.2
        have hF := Lib.hid hF
        have hG := Lib.hid hG
        have hZ := Lib.hid hZ
        go_wp2_with fail
        refine (hI.out _).mono ?_
        rintro e w6 ⟨rfl, hb6⟩
        have B6 := Lib.hid (below_then B5.out hb6)
        clear hb6 B5
        go_wp2_with fail
        refine (hDF.out _).mono ?_
        rintro e w6b ⟨rfl, rfl⟩
        rcases hxc with ⟨g1, rfl, g2, rfl⟩ | rfl
        · have g3 := g2.symm
          subst g3
          obtain ⟨j1, j2⟩ := str_pos g1
          go_wp2_with fail
          refine (hS.out _).mono ?_
          rintro e w7 ⟨rfl, hb7⟩
          have B7 := Lib.hid (below_then B6.out hb7)
          clear hb7 B6
          go_wp2_with fail
          refine (hP.out _).mono ?_
          rintro e w8 ⟨rfl, hb8⟩
          have B8 := Lib.hid (below_then B7.out hb8)
          clear hb8 B7
          go_wp2_with fail
          refine (hQ.out _).mono ?_
          rintro e w9 ⟨rfl, hb9⟩
          have B9 := Lib.hid (below_then B8.out hb9)
          clear hb9 B8
          go_wp2_with fail
          refine (hF.out _).mono ?_
          rintro e w9b ⟨rfl, hb9b⟩
          have B9b := Lib.hid (below_then B9.out hb9b)
          clear hb9b B9
          go_wp2_with fail
          refine (hZ.out _).mono ?_
          rintro e w10 ⟨rfl, hb10⟩
          have B10 := Lib.hid (below_then B9b.out hb10)
          clear hb10 B9b
          rcases hfc with ⟨rfl, q2, r1, r2⟩ | ⟨rfl, r1⟩
          · have q3 := q2.symm
            subst q3
            go_wp2_with fail
            refine (hG.out _).mono ?_
            rintro e w11 ⟨rfl, hb11⟩
            have B11 := Lib.hid (below_then B10.out hb11)
            clear hb11 B10
            go_wp2_with fail
            go_ret
            exact ⟨rfl, B11.out⟩
          · by_cases r2 : -1000000000 < y0
            · have r3 : ¬ y0 < 1000000000 := fun h => r1 ⟨r2, h⟩
              go_wp2_with fail
              refine (hG.out _).mono ?_
              rintro e w11 ⟨rfl, hb11⟩
              have B11 := Lib.hid (below_then B10.out hb11)
              clear hb11 B10
              go_wp2_with fail
              go_ret
              exact ⟨by first | rfl | simp [r3], B11.out⟩
            · go_wp2_with fail
              refine (hG.out _).mono ?_
              rintro e w11 ⟨rfl, hb11⟩
              have B11 := Lib.hid (below_then B10.out hb11)
              clear hb11 B10
              go_wp2_with fail
              go_ret
              exact ⟨rfl, B11.out⟩
        · go_wp2_with fail
          refine (hS.out _).mono ?_
          rintro e w7 ⟨rfl, hb7⟩
          have B7 := Lib.hid (below_then B6.out hb7)
          clear hb7 B6
          go_wp2_with fail
          refine (hP.out _).mono ?_
          rintro e w8 ⟨rfl, hb8⟩
          have B8 := Lib.hid (below_then B7.out hb8)
          clear hb8 B7
          go_wp2_with fail
          refine (hQ.out _).mono ?_
          rintro e w9 ⟨rfl, hb9⟩
          have B9 := Lib.hid (below_then B8.out hb9)
          clear hb9 B8
          go_wp2_with fail
          refine (hF.out _).mono ?_
          rintro e w9b ⟨rfl, hb9b⟩
          have B9b := Lib.hid (below_then B9.out hb9b)
          clear hb9b B9
          go_wp2_with fail
          refine (hZ.out _).mono ?_
          rintro e w10 ⟨rfl, hb10⟩
          have B10 := Lib.hid (below_then B9b.out hb10)
          clear hb10 B9b
          rcases hfc with ⟨rfl, q2, r1, r2⟩ | ⟨rfl, r1⟩
          · have q3 := q2.symm
            subst q3
            go_wp2_with fail
            refine (hG.out _).mono ?_
            rintro e w11 ⟨rfl, hb11⟩
            have B11 := Lib.hid (below_then B10.out hb11)
            clear hb11 B10
            go_wp2_with fail
            go_ret
            exact ⟨rfl, B11.out⟩
          · by_cases r2 : -1000000000 < y0
            · have r3 : ¬ y0 < 1000000000 := fun h => r1 ⟨r2, h⟩
              go_wp2_with fail
              refine (hG.out _).mono ?_
              rintro e w11 ⟨rfl, hb11⟩
              have B11 := Lib.hid (below_then B10.out hb11)
              clear hb11 B10
              go_wp2_with fail
              go_ret
              exact ⟨by first | rfl | simp [r3], B11.out⟩
            · go_wp2_with fail
              refine (hG.out _).mono ?_
              rintro e w11 ⟨rfl, hb11⟩
              have B11 := Lib.hid (below_then B10.out hb11)
              clear hb11 B10
              go_wp2_with fail
              go_ret
              exact ⟨rfl, B11.out⟩
      · go_wp2_with fail
        refine (drawFixed A n c zs _ (HC.out.keep B4.out)).mono ?_
        rintro e w5 ⟨⟨y0, m, rfl, hy, hm1, hm2⟩, hb5⟩
        have B5 := Lib.hid (below_then B4.out hb5)
        clear hb5 B4
        obtain ⟨f, hI, hS, hf8, y, is, hDF, hxc⟩ := fixBoth y0 m hy.1 hy.2 tail ht
        have hI := Lib.hid hI
        have hS := Lib.hid hS
        have hDF := Lib.hid hDF
        obtain ⟨hx, hP, hxs, hQ⟩ := hexBoth tail ht
        have hP := Lib.hid hP
        have hQ := Lib.hid hQ
        obtain ⟨d, hF, hG, z, g, hZ, hfc⟩ := fmtBoth y0 hy.1 hy.2
        have hF := Lib.hid hF
        have hG := Lib.hid hG
        have hZ := Lib.hid hZ
        go_wp2_with fail
        refine (hI.out _).mono ?_
        rintro e w6 ⟨rfl, hb6⟩
        have B6 := Lib.hid (below_then B5.out hb6)
        clear hb6 B5
        go_wp2_with fail
        refine (hDF.out _).mono ?_
        rintro e w6b ⟨rfl, rfl⟩
        rcases hxc with ⟨g1, rfl, g2, rfl⟩ | rfl
        · have g3 := g2.symm
          subst g3
          obtain ⟨j1, j2⟩ := str_pos g1
          go_wp2_with fail
          refine (hS.out _).mono ?_
          rintro e w7 ⟨rfl, hb7⟩
          have B7 := Lib.hid (below_then B6.out hb7)
          clear hb7 B6
          go_wp2_with fail
          refine (hP.out _).mono ?_
          rintro e w8 ⟨rfl, hb8⟩
          have B8 := Lib.hid (below_then B7.out hb8)
          clear hb8 B7
          go_wp2_with fail
          refine (hQ.out _).mono ?_
          rintro e w9 ⟨rfl, hb9⟩
          have B9 := Lib.hid (below_then B8.out hb9)
          clear hb9 B8
          go_wp2_with fail
          refine (hF.out _).mono ?_
          rintro e w9b ⟨rfl, hb9b⟩
          have B9b := Lib.hid (below_then B9.out hb9b)
          clear hb9b B9
          go_wp2_with fail
          refine (hZ.out _).mono ?_
          rintro e w10 ⟨rfl, hb10⟩
          have B10 := Lib.hid (below_then B9b.out hb10)
          clear hb10 B9b
          rcases hfc with ⟨rfl, q2, r1, r2⟩ | ⟨rfl, r1⟩
          · have q3 := q2.symm
            subst q3
            go_wp2_with fail
            refine (hG.out _).mono ?_
            rintro e w11 ⟨rfl, hb11⟩
            have B11 := Lib.hid (below_then B10.out hb11)
            clear hb11 B10
            go_wp2_with fail
            go_ret
            exact ⟨rfl, B11.out⟩
          · by_cases r2 : -1000000000 < y0
            · have r3 : ¬ y0 < 1000000000 := fun h => r1 ⟨r2, h⟩
              go_wp2_with fail
              refine (hG.out _).mono ?_
              rintro e w11 ⟨rfl, hb11⟩
              have B11 := Lib.hid (below_then B10.out hb11)
              clear hb11 B10
              go_wp2_with fail
              go_ret
              exact ⟨by first | rfl | simp [r3], B11.out⟩
            · go_wp2_with fail
              refine (hG.out _).mono ?_
              rintro e w11 ⟨rfl, hb11⟩
              have B11 := Lib.hid (below_then B10.out hb11)
              clear hb11 B10
              go_wp2_with fail
              go_ret
              exact ⟨rfl, B11.out⟩
        · go_wp2_with fail
          refine (hS.out _).mono ?_
          rintro e w7 ⟨rfl, hb7⟩
          have B7 := Lib.hid (below_then B6.out hb7)
          clear hb7 B6
          go_wp2_with fail
          refine (hP.out _).mono ?_
          rintro e w8 ⟨rfl, hb8⟩
          have B8 := Lib.hid (below_then B7.out hb8)
          clear hb8 B7
          go_wp2_with fail
          refine (hQ.out _).mono ?_
          rintro e w9 ⟨rfl, hb9⟩
          have B9 := Lib.hid (below_then B8.out hb9)
          clear hb9 B8
          go_wp2_with fail
          refine (hF.out _).mono ?_
          rintro e w9b ⟨rfl, hb9b⟩
          have B9b := Lib.hid (below_then B9.out hb9b)
          clear hb9b B9
          go_wp2_with fail
          refine (hZ.out _).mono ?_
          rintro e w10 ⟨rfl, hb10⟩
          have B10 := Lib.hid (below_then B9b.out hb10)
          clear hb10 B9b
          rcases hfc with ⟨rfl, q2, r1, r2⟩ | ⟨rfl, r1⟩
          · have q3 := q2.symm
            subst q3
            go_wp2_with fail
            refine (hG.out _).mono ?_
            rintro e w11 ⟨rfl, hb11⟩
            have B11 := Lib.hid (below_then B10.out hb11)
            clear hb11 B10
            go_wp2_with fail
            go_ret
            exact ⟨rfl, B11.out⟩
          · by_cases r2 : -1000000000 < y0
            · have r3 : ¬ y0 < 1000000000 := fun h => r1 ⟨r2, h⟩
              go_wp2_with fail
              refine (hG.out _).mono ?_
              rintro e w11 ⟨rfl, hb11⟩
              have B11 := Lib.hid (below_then B10.out hb11)
              clear hb11 B10
              go_wp2_with fail
              go_ret
              exact ⟨by first | rfl | simp [r3], B11.out⟩
            · go_wp2_with fail
              refine (hG.out _).mono ?_
              rintro e w11 ⟨rfl, hb11⟩
              have B11 := Lib.hid (below_then B10.out hb11)
              clear hb11 B10
              go_wp2_with fail
              go_ret
              exact ⟨rfl, B11.out⟩
  · rw [decide_eq_true (show 1048576 < n by omega)] at HB
    go_enter Try.func13, Try.ntmps13
    go_wp2_with fail
    refine HB.out.mono ?_
    rintro e w0 ⟨rfl, rfl⟩
    go_wp2_with fail
    go_ret
    exact ⟨rfl, Below.refl _ _⟩
end Go.Proofs.Ytndehfkamfmmeaa
