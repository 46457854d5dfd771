/-
  HeightOf of both packages and its law, walked.
-/
import Derived.Test.YthbfockobnfomaaBinM
import Derived.Test.YthbfockobnfomaaPlH
namespace Go.Proofs.Ythbfockobnfomaa
open Go.RowKit
def mx (a : Int) (l : List Int) : Int := l.foldl (fun x y => if x < y then y else x) a
theorem mx_snoc (a : Int) (l : List Int) (x : Int) : mx a (l ++ [x]) = if mx a l < x then x else mx a l := by
  unfold mx; rw [List.foldl_append]; rfl
theorem mx_start (l : List Int) (hl : l ≠ []) (h : ∀ x ∈ l, 0 ≤ x) : mx 0 l = mx (-1) l := by
  cases l with
  | nil => exact absurd rfl hl
  | cons x r =>
    have hx := h x (by simp)
    have e1 : (if (0 : Int) < x then x else 0) = x := by split <;> omega
    have e2 : (if (-1 : Int) < x then x else -1) = x := by split <;> omega
    simp only [mx, List.foldl_cons, e1, e2]
theorem take_int (l : List Int) (k : Nat) (h : k < l.length) : l.take (k + 1) = l.take k ++ [l.getD k 0] := by
  rw [List.take_succ_eq_append_getElem h]; simp [List.getD, h]

set_option maxRecDepth 100000 in
set_option maxHeartbeats 1000000 in
theorem hoS (s : ByteArray) (l : List Int) (hll : l.length ≤ 1000) (hS : ∀ w, Calls Try.prog 34 #[.string s] w (RetI l w)) (w : World) : Calls Try.prog 32 #[.string s] w fun e w' => e = .returned (.int .i64 (mx (-1) l)) ∧ Below w.heap.size w w' := by
  have HS := Lib.hid hS
  obtain ⟨n, hn⟩ : ∃ n, n = l.length := ⟨_, rfl⟩
  rw [← hn] at hll
  have HN := Lib.hid hn
  clear hS hn
  go_enter Try.func32, Try.ntmps32
  go_wp2_with fail
  refine (HS.out _).mono ?_
  rintro e w2 ⟨A2, c2, rfl, hB2⟩
  have HR := Lib.hid hB2.rd
  have HB := Lib.hid hB2.bel
  clear hB2
  rw [← HN.out]
  go_wp2_with fail
  go_loop [4, 5] (fun m i => ∃ k : Nat, k ≤ n ∧ i = .int .i64 (k : Int) ∧ m = .int .i64 (mx (-1) (l.take k))) (fun _ i => n - (intOf i).toNat)
  case atStart => exact ⟨0, by omega, rfl, rfl⟩
  case round =>
    obtain ⟨k, hk, rfl, rfl⟩ := hrel
    by_cases hlt : k < n
    · obtain ⟨b, o, rfl⟩ := HR.out.form (by rw [← HN.out]; omega)
      have hck := HR.out.at_ k (by rw [← HN.out]; exact hlt)
      have HM : Hid (mx (-1) (l.take (k + 1)) = if mx (-1) (l.take k) < l.getD k 0 then l.getD k 0 else mx (-1) (l.take k)) := by
        show _ = _; rw [take_int l k (by rw [← HN.out]; exact hlt), mx_snoc]
      obtain ⟨x, hx⟩ : ∃ x, x = l.getD k 0 := ⟨_, rfl⟩
      obtain ⟨y, hy⟩ : ∃ y, y = mx (-1) (l.take k) := ⟨_, rfl⟩
      rw [← hx] at hck HM
      rw [← hy] at HM ⊢
      clear hx hy
      go_wp2
      go_round
      case rel => exact ⟨k + 1, by omega, by go_num, by rw [HM.out]⟩
      case measure => simp [intOf]; omega
    · obtain rfl : k = n := by omega
      have HF : Hid (mx (-1) (l.take k) = mx (-1) l) := by show _ = _; rw [List.take_of_length_le (by rw [HN.out]; exact Nat.le_refl _)]
      go_wp2
      go_ret
      exact ⟨by rw [← HF.out]; rfl, HB.out⟩
set_option maxRecDepth 100000 in
set_option maxHeartbeats 1000000 in
theorem hoI_yes (t : Tr) (hn : t.nodes ≤ 8) (w : World) : Calls Try.prog 33 #[.string (toB t.txt)] w fun e w' => e = .returned (.int .i64 (mx (-1) (t.lev 0))) ∧ Below w.heap.size w w' := by
  have HS := Lib.hid (llI_yes t hn)
  have HD := Lib.hid (isBinI_yes t hn)
  have HV := Lib.hid (mx_start (t.lev 0) (lev_ne t 0) (fun x hx => by have := lev_lo t 0 x hx; omega))
  have hll := len_lev t 0
  obtain ⟨l, hl⟩ : ∃ l, l = t.lev 0 := ⟨_, rfl⟩
  obtain ⟨n, hnn⟩ : ∃ n, n = l.length := ⟨_, rfl⟩
  rw [← hl] at HS HV hll ⊢
  rw [← hnn] at hll
  have HN := Lib.hid hnn
  have hn9 : n ≤ 1000 := by omega
  obtain ⟨s, hs⟩ : ∃ s, s = toB t.txt := ⟨_, rfl⟩
  rw [← hs] at HS HD ⊢
  clear hl hnn hs hll
  go_enter Try.func33, Try.ntmps33
  go_wp2_with fail
  refine (HD.out _).mono ?_
  rintro e w1 ⟨rfl, hb1⟩
  go_wp2_with fail
  refine (HS.out _).mono ?_
  rintro e w2 ⟨A2, c2, rfl, hB2⟩
  have HR := Lib.hid hB2.rd
  have HB := Lib.hid (below_then hb1 hB2.bel)
  clear hB2 hb1
  rw [← HN.out]
  go_wp2_with fail
  go_loop [3, 12] (fun m i => ∃ k : Nat, k ≤ n ∧ i = .int .i64 (k : Int) ∧ m = .int .i64 (mx 0 (l.take k))) (fun _ i => n - (intOf i).toNat)
  case atStart => exact ⟨0, by omega, rfl, rfl⟩
  case round =>
    obtain ⟨k, hk, rfl, rfl⟩ := hrel
    by_cases hlt : k < n
    · obtain ⟨b, o, rfl⟩ := HR.out.form (by rw [← HN.out]; omega)
      have hck := HR.out.at_ k (by rw [← HN.out]; exact hlt)
      have HM : Hid (mx 0 (l.take (k + 1)) = if mx 0 (l.take k) < l.getD k 0 then l.getD k 0 else mx 0 (l.take k)) := by
        show _ = _; rw [take_int l k (by rw [← HN.out]; exact hlt), mx_snoc]
      obtain ⟨x, hx⟩ : ∃ x, x = l.getD k 0 := ⟨_, rfl⟩
      obtain ⟨y, hy⟩ : ∃ y, y = mx 0 (l.take k) := ⟨_, rfl⟩
      rw [← hx] at hck HM
      rw [← hy] at HM ⊢
      clear hx hy
      go_wp2
      go_round
      case rel => exact ⟨k + 1, by omega, by go_num, by rw [HM.out]⟩
      case measure => simp [intOf]; omega
    · obtain rfl : k = n := by omega
      have HF : Hid (mx 0 (l.take k) = mx (-1) l) := by show _ = _; rw [List.take_of_length_le (by rw [HN.out]; exact Nat.le_refl _), HV.out]
      go_wp2
      go_ret
      exact ⟨by rw [← HF.out]; rfl, HB.out⟩
theorem hoI_no (s : ByteArray) (hs : s.size ≤ 1048576) (h : ¬ Bin s) (w : World) : Calls Try.prog 33 #[.string s] w fun e w' => e = .returned (.int .i64 (-1)) ∧ Below w.heap.size w w' := by
  have HD := Lib.hid (isBinI_no s hs h)
  clear h
  go_enter Try.func33, Try.ntmps33
  go_wp2_with fail
  refine (HD.out _).mono ?_
  rintro e w1 ⟨rfl, hb1⟩
  go_wp2_with fail
  go_ret
  exact ⟨rfl, hb1⟩
theorem hoS_yes (t : Tr) (hn : t.nodes ≤ 8) (w : World) : Calls Try.prog 32 #[.string (toB t.txt)] w fun e w' => e = .returned (.int .i64 (mx (-1) (t.lev 0))) ∧ Below w.heap.size w w' := hoS _ (t.lev 0) (by rw [len_lev]; omega) (llS_yes t hn) w
theorem hoS_no (s : ByteArray) (hs : s.size ≤ 1048576) (h : ¬ Bin s) (w : World) : Calls Try.prog 32 #[.string s] w fun e w' => e = .returned (.int .i64 (-1)) ∧ Below w.heap.size w w' := hoS s [] (by simp) (llS_no s hs h) w
set_option maxRecDepth 100000 in
set_option maxHeartbeats 1000000 in
theorem law_FnExactHeightOf (s : ByteArray) (w : World) (hs : s.size ≤ maxLen) : Calls Try.prog 10 #[.string s] w fun e w' => e = .returned (.bool true) ∧ Below w.heap.size w w' := by
  unfold maxLen at hs
  by_cases hb : s.size ≤ 1048576
  · by_cases hB : Bin s
    · obtain ⟨t, hst, hn⟩ := hB
      subst hst
      have HS := Lib.hid (hoS_yes t hn)
      have HI := Lib.hid (hoI_yes t hn)
      obtain ⟨x, hx⟩ : ∃ x, x = toB t.txt := ⟨_, rfl⟩
      rw [← hx] at HS HI hb ⊢
      clear hx hs
      go_enter Try.func10, Try.ntmps10
      go_wp2_with fail
      refine (HS.out _).mono ?_
      rintro e w1 ⟨rfl, h1⟩
      go_wp2_with fail
      refine (HI.out _).mono ?_
      rintro e w2 ⟨rfl, h2⟩
      go_wp2_with fail
      go_ret
      exact ⟨rfl, below_then h1 h2⟩
    · have HS := Lib.hid (hoS_no s hb hB)
      have HI := Lib.hid (hoI_no s hb hB)
      clear hB
      go_enter Try.func10, Try.ntmps10
      go_wp2_with fail
      refine (HS.out _).mono ?_
      rintro e w1 ⟨rfl, h1⟩
      go_wp2_with fail
      refine (HI.out _).mono ?_
      rintro e w2 ⟨rfl, h2⟩
      go_wp2_with fail
      go_ret
      exact ⟨rfl, below_then h1 h2⟩
  · go_enter Try.func10, Try.ntmps10
    go_wp2
    go_ret
    exact ⟨rfl, Below.refl _ _⟩
end Go.Proofs.Ythbfockobnfomaa
