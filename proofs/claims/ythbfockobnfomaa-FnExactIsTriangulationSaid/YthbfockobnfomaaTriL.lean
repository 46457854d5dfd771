/-
  The law laws.FnExactIsTriangulation, walked.
-/
import Derived.Test.YthbfockobnfomaaTri4
namespace Go.Proofs.Ythbfockobnfomaa
open Go.RowKit
theorem tri_law (n : Int) (zss : List (List Int)) (hln : zss.length ≤ 1048576) (_ : zss.length + szRest zss ≤ 1048576) : ∃ b, (∀ A c w, zss.length ≤ c → c ≤ 9223372036854775807 → RdM w A zss → Calls Try.prog 46 #[.int .i64 n, .slice A zss.length c] w fun e w' => e = .returned (.bool b) ∧ Below w.heap.size w w') ∧
    (∀ A c w, zss.length ≤ c → c ≤ 9223372036854775807 → RdM w A zss → Calls Try.prog 48 #[.int .i64 n, .slice A zss.length c] w fun e w' => e = .returned (.bool b) ∧ Below w.heap.size w w') :=
  ⟨_, fun A c w _ _ ha => isTriS n A c _ zss w rfl hln ha, fun A c w h1 h2 ha => isTriI n A c _ zss w rfl hln h1 h2 ha⟩
set_option maxRecDepth 100000 in
set_option maxHeartbeats 2000000 in
theorem law_FnExactIsTriangulation (n : Int) (A : Option Addr) (L c : Nat) (zss : List (List Int)) (w : World) (_ : (Lit.int .i64 n).wf = true) (h : Mat w A L zss) : Calls Try.prog 13 #[.int .i64 n, .slice A L c] w fun e w' => e = .returned (.bool true) ∧ Below w.heap.size w w' := by
  obtain ⟨hl, hm, hr⟩ := h
  subst hl
  have HSz := Lib.hid (szIntSS A zss.length c zss w rfl hm hr)
  unfold maxLen at hm
  by_cases hb : szV zss < 0
  · obtain ⟨v, hv⟩ : ∃ v, v = szV zss := ⟨_, rfl⟩
    rw [← hv] at HSz hb
    clear hr hv
    go_enter Try.func13, Try.ntmps13
    go_wp2_with fail
    refine (HSz.out).mono ?_
    rintro e w' ⟨rfl, rfl⟩
    go_wp2_with fail
    go_ret
    exact ⟨rfl, Below.refl _ _⟩
  · have hsz := szV_ok hb
    have hz := sz_row hsz
    have hln : zss.length ≤ 1048576 := by omega
    obtain ⟨v, hv⟩ : ∃ v, v = szV zss := ⟨_, rfl⟩
    rw [← hv] at HSz hb
    have HZ := Lib.hid hz
    have HT := Lib.hid (fun w' (hbw : Below w.heap.size w w') => toIntSS A zss.length c zss w' rfl hln hz (hr.keep hbw))
    obtain ⟨b, hS, hI⟩ := tri_law n zss hln hsz
    have HS := Lib.hid hS
    have HI := Lib.hid hI
    clear hS hI hv hr hz hsz
    go_enter Try.func13, Try.ntmps13
    go_wp2_with fail
    refine (HSz.out).mono ?_
    rintro e w' ⟨rfl, rfl⟩
    go_wp2_with fail
    refine (HT.out _ (Below.refl _ _)).mono ?_
    rintro e w1 ⟨A1, c1, rs1, rfl, hO1⟩
    go_wp2_with fail
    refine (HS.out _ _ _ hO1.outer.cap hO1.outer.capm hO1.rd).mono ?_
    rintro e w2 ⟨rfl, hb2⟩
    have L2 := Lib.hid (below_then hO1.outer.bel hb2)
    clear hO1 hb2
    go_wp2_with fail
    refine (HT.out _ L2.out).mono ?_
    rintro e w3 ⟨A3, c3, rs3, rfl, hO3⟩
    have G3 := Lib.hid hO3
    have L3 := Lib.hid (below_then L2.out hO3.outer.bel)
    clear hO3
    go_wp2_with fail
    refine (HI.out _ _ _ G3.out.outer.cap G3.out.outer.capm G3.out.rd).mono ?_
    rintro e w4 ⟨rfl, hb4⟩
    have L4 := Lib.hid (below_then L3.out hb4)
    have R4 := Lib.hid (G3.out.rd.keep hb4)
    clear hb4
    go_wp2_with fail
    refine (HT.out _ L4.out).mono ?_
    rintro e w5 ⟨A5, c5, rs5, rfl, hO5⟩
    have G5 := Lib.hid hO5
    have L5 := Lib.hid (below_then L4.out hO5.outer.bel)
    clear hO5
    go_wp2_with fail
    refine (eqIntSS A3 A5 c3 c5 zss _ (R4.out.keep G5.out.outer.bel) G5.out.rd hln HZ.out).mono ?_
    rintro e w6 ⟨rfl, hb6⟩
    go_wp2_with fail
    go_ret
    exact ⟨rfl, below_then L5.out hb6⟩
end Go.Proofs.Ythbfockobnfomaa
