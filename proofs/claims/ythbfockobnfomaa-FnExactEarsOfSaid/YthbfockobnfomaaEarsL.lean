/-
  The law laws.FnExactEarsOf, walked.
-/
import Derived.Test.YthbfockobnfomaaEars
namespace Go.Proofs.Ythbfockobnfomaa
open Go.RowKit
theorem OwnM.row_lt {w0 w : World} {v : Value} {rs : List Value} {zss : List (List Int)} (h : OwnM w0 w v rs zss) (i : Nat) (r : Value) (g : Nat) (hr : rs[i]? = some r) (hg : r.ownBlock = some g) : g < w.heap.size := by
  have hi : i < zss.length := by
    rw [← h.rows.1]
    rcases Nat.lt_or_ge i rs.length with h' | h'
    · exact h'
    · rw [List.getElem?_eq_none h'] at hr; cases hr
  exact ((h.rows.2 i r _ hr (List.getElem?_eq_getElem hi)).own.lt g hg).2
set_option maxRecDepth 100000 in
set_option maxHeartbeats 2000000 in
theorem law_FnExactEarsOf (n : Int) (A : Option Addr) (L c : Nat) (zss : List (List Int)) (w : World) (_ : (Lit.int .i64 n).wf = true) (h : Mat w A L zss) : Calls Try.prog 14 #[.int .i64 n, .slice A L c] w fun e w' => e = .returned (.bool true) ∧ Below w.heap.size w w' := by
  obtain ⟨hl, hm, hr⟩ := h
  subst hl
  have HSz := Lib.hid (szIntSS A zss.length c zss w rfl hm hr)
  unfold maxLen at hm
  by_cases hb : szV zss < 0
  · obtain ⟨v, hv⟩ : ∃ v, v = szV zss := ⟨_, rfl⟩
    rw [← hv] at HSz hb
    clear hr hv
    go_enter Try.func14, Try.ntmps14
    go_wp2_with fail
    refine (HSz.out).mono ?_
    rintro e w' ⟨rfl, rfl⟩
    go_wp2_with fail
    go_ret
    exact ⟨rfl, Below.refl _ _⟩
  · have hsz := szV_ok hb
    have hz := sz_row hsz
    have hln : zss.length ≤ 1048576 := by omega
    obtain ⟨v, hv⟩ : ∃ v, v = szV zss := ⟨_, rfl⟩
    rw [← hv] at HSz hb
    have HZ := Lib.hid hz
    have HSZ := Lib.hid hsz
    have HT := Lib.hid (fun w' (hbw : Below w.heap.size w w') => toIntSS A zss.length c zss w' rfl hln hz (hr.keep hbw))
    obtain ⟨l, hn, hS, hI⟩ := ears_law n zss hln hsz
    have HS := Lib.hid hS
    have HI := Lib.hid hI
    clear hS hI hv hr hz hsz
    go_enter Try.func14, Try.ntmps14
    go_wp2_with fail
    refine (HSz.out).mono ?_
    rintro e w' ⟨rfl, rfl⟩
    go_wp2_with fail
    refine (HT.out _ (Below.refl _ _)).mono ?_
    rintro e w1 ⟨A1, c1, rs1, rfl, hO1⟩
    go_wp2_with fail
    refine (HS.out _ _ _ hO1.outer.cap hO1.outer.capm hO1.rd).mono ?_
    rintro e w2 ⟨A0, c0, rfl, hB0⟩
    have R0 := Lib.hid hB0.rd
    have L2 := Lib.hid (below_then hO1.outer.bel hB0.bel)
    clear hO1 hB0
    go_wp2_with fail
    refine (HT.out _ L2.out).mono ?_
    rintro e w3 ⟨A3, c3, rs3, rfl, hO3⟩
    have G3 := Lib.hid hO3
    have RL := Lib.hid hO3.row_lt
    clear hO3
    go_wp2_with fail
    refine (HI.out _ _ _ G3.out.outer.cap G3.out.outer.capm G3.out.rd).mono ?_
    rintro e w4 ⟨A4, c4, rfl, hB4⟩
    have D4 := Lib.hid (fun g hg => (hB4.own.lt g hg).1)
    have M3 := Lib.hid (G3.out.after hB4.bel)
    have M4 := Lib.hid (hB4.from_ G3.out.outer.bel)
    clear hB4 G3
    go_wp2_with fail
    refine (eqIntS A4 A0 c4 c0 l _ M4.out.rd (R0.out.keep M4.out.bel) hn).mono ?_
    rintro e w5 ⟨rfl, hb5⟩
    have N3 := Lib.hid (M3.out.after hb5)
    have N4 := Lib.hid (M4.out.after hb5)
    clear hb5 M3 M4
    go_wp2_with fail
    refine (HT.out _ (below_then L2.out N3.out.outer.bel)).mono ?_
    rintro e w6 ⟨A6, c6, rs6, rfl, hO6⟩
    have P3 := Lib.hid (N3.out.after hO6.outer.bel)
    have P4 := Lib.hid (N4.out.after hO6.outer.bel)
    have R6 := Lib.hid hO6.rd
    clear hO6 N3 N4
    go_wp2_with fail
    refine (eqIntSS A3 A6 c3 c6 zss _ P3.out.rd R6.out hln HZ.out).mono ?_
    rintro e w7 ⟨rfl, hb7⟩
    have Q3 := Lib.hid (P3.out.after hb7)
    have Q4 := Lib.hid (P4.out.after hb7)
    clear hb7 P3 P4 R6
    go_wp2_with fail
    refine (markIntSS A3 zss.length c3 w3.heap.size rs3 zss w2 _ rfl Q3.out HSZ.out RL.out).mono ?_
    rintro e w8 ⟨⟨t, ht, rfl⟩, hsp⟩
    have S4 := Lib.hid (Q4.out.span hsp D4.out)
    clear hsp Q3 Q4
    have hk1 : ¬ ((1 : Int) + (t : Int) < 0) := by omega
    go_wp2_with fail
    refine (eqIntS A4 A0 c4 c0 l _ S4.out.rd (R0.out.keep S4.out.bel) hn).mono ?_
    rintro e w9 ⟨rfl, hb9⟩
    have T4 := Lib.hid (S4.out.after hb9)
    clear hb9 S4
    go_wp2_with fail
    refine (markIntS A4 l.length c4 l 1 w2 _ rfl T4.out hn (by omega)).mono ?_
    rintro e w10 ⟨rfl, hB10, _⟩
    have U4 := Lib.hid hB10
    clear hB10 T4
    go_wp2_with fail
    refine (heldIntS A4 l.length c4 1 _ U4.out.rd hn (by omega)).mono ?_
    rintro e w11 ⟨rfl, hb11⟩
    have V4 := Lib.hid (U4.out.after hb11)
    clear hb11 U4
    go_wp2_with fail
    refine (HT.out _ (below_then L2.out V4.out.bel)).mono ?_
    rintro e w12 ⟨A12, c12, rs12, rfl, hO12⟩
    have W4 := Lib.hid (V4.out.after hO12.outer.bel)
    have O12 := Lib.hid hO12
    clear hO12 V4
    go_wp2_with fail
    refine (HI.out _ _ _ O12.out.outer.cap O12.out.outer.capm O12.out.rd).mono ?_
    rintro e w13 ⟨A13, c13, rfl, hB13⟩
    have X4 := Lib.hid (W4.out.after hB13.bel)
    have R13 := Lib.hid hB13.rd
    clear hB13 W4 O12
    go_wp2_with fail
    refine (eqIntS A13 A0 c13 c0 l _ R13.out (R0.out.keep X4.out.bel) hn).mono ?_
    rintro e w14 ⟨rfl, hb14⟩
    have Y4 := Lib.hid (X4.out.after hb14)
    clear hb14 X4
    go_wp2_with fail
    refine (heldIntS A4 l.length c4 1 _ Y4.out.rd hn (by omega)).mono ?_
    rintro e w15 ⟨rfl, hb15⟩
    go_wp2_with fail
    go_ret
    exact ⟨rfl, below_then L2.out (below_then Y4.out.bel hb15)⟩
end Go.Proofs.Ythbfockobnfomaa
