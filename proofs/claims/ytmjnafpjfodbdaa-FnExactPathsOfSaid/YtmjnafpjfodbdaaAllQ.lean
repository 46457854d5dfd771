/-
  PathsOf of both packages and its law, walked: the outer functions.
-/
import Derived.Test.YtmjnafpjfodbdaaAllP
namespace Go.Proofs.Ytmjnafpjfodbdaa
open Go.RowKit
theorem size_alloc3 (w : World) (o1 o2 o3 : Obj) : (((w.alloc o1).alloc o2).alloc o3).heap.size = w.heap.size + 1 + 1 + 1 := by
  show (((w.heap.push o1).push o2).push o3).size = _
  simp
theorem size_alloc2 (w : World) (o1 o2 : Obj) : ((w.alloc o1).alloc o2).heap.size = w.heap.size + 1 + 1 := by
  show ((w.heap.push o1).push o2).size = _
  simp
theorem size_alloc1 (w : World) (o1 : Obj) : (w.alloc o1).heap.size = w.heap.size + 1 := by
  show (w.heap.push o1).size = _
  simp
theorem Cap.start (w : World) (u : Value) (hu : u = .func (.func 59) #[] #[.pointer (some ⟨w.heap.size + 1, 0, none⟩), .pointer (some ⟨w.heap.size + 1 + 1, 0, none⟩)]) :
    Cap w (((w.alloc (.cells #[] 9)).alloc (.cells #[.slice (some ⟨w.heap.size, 0, none⟩) 0 0] 28)).alloc (.cells #[u] 63)) (w.heap.size + 1) (w.heap.size + 1 + 1) [] := by
  subst hu
  have hB : Buf w (w.alloc (.cells #[] 9)) 9 (.slice (some ⟨w.heap.size, 0, none⟩) 0 0) (vS []) := Buf.lit (Below.refl _ w) [] (by decide)
  refine ⟨⟨_, ?_, (hB.alloc _).alloc _⟩, ?_, by omega, by omega⟩
  · have h := heap_alloc_new (w.alloc (.cells #[] 9)) (.cells #[.slice (some ⟨w.heap.size, 0, none⟩) 0 0] 28)
    rw [size_alloc1] at h
    rw [Below.heap_alloc _ _ _ (by rw [size_alloc2]; omega)]
    exact h
  · have h := heap_alloc_new ((w.alloc (.cells #[] 9)).alloc (.cells #[.slice (some ⟨w.heap.size, 0, none⟩) 0 0] 28)) (.cells #[.func (.func 59) #[] #[.pointer (some ⟨w.heap.size + 1, 0, none⟩), .pointer (some ⟨w.heap.size + 1 + 1, 0, none⟩)]] 63)
    rw [size_alloc2] at h
    exact h
set_option maxRecDepth 100000 in
set_option maxHeartbeats 1000000 in
theorem allPathsI (N : Nat) (hN : N ≤ 6) (w : World) : Calls Try.prog 54 #[.int .i64 (N : Int)] w (RetS ((allP (N + N) [] N N).map toB) w) := by
  have h12 : 2 ^ (N + N + 1) ≤ 8192 := (Nat.pow_le_pow_right (by decide) (show N + N + 1 ≤ 13 by omega) : 2 ^ (N + N + 1) ≤ 2 ^ 13)
  have HM := Lib.hid (fun w' hC => moreI w (w.heap.size + 1) (w.heap.size + 1 + 1) (N + N) [] N N (by omega) rfl (by omega) (by simp; omega) w' [] (by simp only [List.length_nil]; omega) hC)
  have HE : Hid (toB [] = ByteArray.empty) := rfl
  rw [HE.out] at HM
  have HS := Lib.hid (Cap.start w _ rfl)
  clear h12
  go_enter Try.func54, Try.ntmps54
  go_wp2_with fail
  refine (HM.out _ HS.out).mono ?_
  rintro e w1 ⟨rfl, hC1⟩
  obtain ⟨v, hq1, hB⟩ := hC1.out
  have hc1 := cell_of_one hq1
  rw [List.nil_append] at hB
  clear hC1 hq1
  go_wp2_with fail
  go_ret
  exact RetS.of hB
set_option maxRecDepth 100000 in
set_option maxHeartbeats 1000000 in
theorem pathsOfI (n : Int) (w : World) : Calls Try.prog 41 #[.int .i64 n] w (RetS (pasV n) w) := by
  have HI := Lib.hid (withinC n 0 6 w)
  by_cases h : 0 ≤ n ∧ n ≤ 6
  · obtain ⟨N, rfl⟩ : ∃ N : Nat, n = N := ⟨n.toNat, by omega⟩
    have hv : pasV (N : Int) = (allP (N + N) [] N N).map toB := if_pos h
    rw [inR_yes h.1 h.2] at HI
    have HA := Lib.hid (allPathsI N (by omega) w)
    rw [hv]
    clear hv
    go_enter Try.func41, Try.ntmps41
    go_wp2_with fail
    refine HI.out.mono ?_
    rintro e w1 ⟨rfl, rfl⟩
    go_wp2_with fail
    refine HA.out.mono ?_
    rintro e w1 ⟨A, c, rfl, hB⟩
    obtain ⟨v, hv⟩ : ∃ v, v = Value.slice A (List.map toB (allP (N + N) [] N N)).length c := ⟨_, rfl⟩
    rw [← hv] at hB ⊢
    clear hv
    go_wp2_with fail
    go_ret
    exact RetS.of hB
  · have hv : pasV n = [] := if_neg h
    rw [inR_no h] at HI
    rw [hv]
    clear hv
    go_enter Try.func41, Try.ntmps41
    go_wp2_with fail
    refine HI.out.mono ?_
    rintro e w1 ⟨rfl, rfl⟩
    go_wp2_with fail
    go_ret
    exact RetS.of (Buf.lit (Below.refl _ w) [] (by decide))
set_option maxRecDepth 100000 in
set_option maxHeartbeats 1000000 in
theorem pathsOfS (n : Int) (w : World) : Calls Try.prog 40 #[.int .i64 n] w (RetS (pasV n) w) := by
  have HI := Lib.hid (inC n 0 6 w)
  by_cases h : 0 ≤ n ∧ n ≤ 6
  · obtain ⟨N, rfl⟩ : ∃ N : Nat, n = N := ⟨n.toNat, by omega⟩
    have hv : pasV (N : Int) = (allP (N + N) [] N N).map toB := if_pos h
    rw [inR_yes h.1 h.2] at HI
    have HA := Lib.hid (l3AllS (N + N) [] N N (by omega) rfl (by omega) (by simp; omega) w)
    rw [hv]
    clear hv
    have HE : Hid (toB [] = ByteArray.empty) := rfl
    rw [HE.out] at HA
    go_enter Try.func40, Try.ntmps40
    go_wp2_with fail
    refine HI.out.mono ?_
    rintro e w1 ⟨rfl, rfl⟩
    go_wp2_with fail
    refine HA.out.mono ?_
    rintro e w1 ⟨A, c, rfl, hB⟩
    obtain ⟨v, hv⟩ : ∃ v, v = Value.slice A (List.map toB (allP (N + N) [] N N)).length c := ⟨_, rfl⟩
    rw [← hv] at hB ⊢
    clear hv
    go_wp2_with fail
    go_ret
    exact RetS.of hB
  · have hv : pasV n = [] := if_neg h
    rw [inR_no h] at HI
    rw [hv]
    clear hv
    go_enter Try.func40, Try.ntmps40
    go_wp2_with fail
    refine HI.out.mono ?_
    rintro e w1 ⟨rfl, rfl⟩
    go_wp2_with fail
    go_ret
    exact RetS.of (Buf.lit (Below.refl _ w) [] (by decide))
set_option maxRecDepth 100000 in
set_option maxHeartbeats 1000000 in
theorem law_FnExactPathsOf (n : Int) (w : World) (_ : (Lit.int .i64 n).wf = true) : Calls Try.prog 6 #[.int .i64 n] w fun e w' => e = .returned (.bool true) ∧ Below w.heap.size w w' := by
    have HS := Lib.hid (fun w => pathsOfS n w)
    have HI := Lib.hid (fun w => pathsOfI n w)
    have hn : (pasV n).length ≤ 1073741824 := by have := pasV_len n; omega
    obtain ⟨l, hl⟩ : ∃ l, l = pasV n := ⟨_, rfl⟩
    rw [← hl] at HS HI hn
    clear hl
    go_enter Try.func6, Try.ntmps6
    go_wp2_with fail
    refine (HS.out _).mono ?_
    rintro e w1 ⟨A0, c0, rfl, hB0⟩
    go_wp2_with fail
    refine (HI.out _).mono ?_
    rintro e w2 ⟨A1, c1, rfl, hB1⟩
    have R0 := Lib.hid hB0.rdS
    have G1 := Lib.hid hB1
    have b1 := Lib.hid hB0.bel
    clear hB0 hB1
    go_wp2_with fail
    refine (eqStringS A1 A0 c1 c0 l _ G1.out.rdS (R0.out.keep G1.out.bel) hn).mono ?_
    rintro e w3 ⟨rfl, hb3⟩
    have b3 := Lib.hid hb3
    clear hb3
    go_wp2_with fail
    refine (markStringS A1 l.length c1 l 1 w1 _ rfl (G1.out.after b3.out) hn (by omega) (by omega)).mono ?_
    rintro e w4 ⟨rfl, hB4, hb4⟩
    have G4 := Lib.hid hB4
    have b4 := Lib.hid hb4
    clear hB4 hb4
    go_wp2_with fail
    refine (heldStringS A1 l.length c1 1 _ G4.out.rdS hn (by omega) (by omega)).mono ?_
    rintro e w5 ⟨rfl, hb5⟩
    have b5 := Lib.hid hb5
    clear hb5
    go_wp2_with fail
    refine (HI.out _).mono ?_
    rintro e w6 ⟨A2, c2, rfl, hB6⟩
    have G6 := Lib.hid hB6
    clear hB6
    have b16 : Hid (Below w1.heap.size w1 w6) := below_then (below_then (below_then G1.out.bel b3.out |>.trans b4.out) b5.out) G6.out.bel
    go_wp2_with fail
    refine (eqStringS A2 A0 c2 c0 l _ G6.out.rdS (R0.out.keep b16.out) hn).mono ?_
    rintro e w7 ⟨rfl, hb7⟩
    have b7 := Lib.hid hb7
    clear hb7
    go_wp2_with fail
    refine (heldStringS A1 l.length c1 1 _ (G4.out.rdS.keep (below_then (below_then b5.out G6.out.bel) b7.out)) hn (by omega) (by omega)).mono ?_
    rintro e w8 ⟨rfl, hb8⟩
    go_wp2_with fail
    go_ret
    exact ⟨rfl, below_then b1.out (below_then (below_then b16.out b7.out) hb8)⟩
end Go.Proofs.Ytmjnafpjfodbdaa
