/-
  LevelsOf of both packages and its law, walked.
-/
import Derived.Test.YtndehfkamfmmeaaPlI
import Derived.Test.YtndehfkamfmmeaaHts
import Derived.Test.YtndehfkamfmmeaaMark
namespace Go.Proofs.Ytndehfkamfmmeaa
open Go.RowKit
theorem levels_no {p : List Int} (h : plane p = false) : levels p = [] := if_neg (by rw [h]; simp)
theorem levels_yes {p : List Int} (h : plane p = true) : levels p = 0 :: lvGo 1 [0] (p.drop 1) := if_pos h
theorem plane_len' {p : List Int} (h : plane p = true) : 1 ≤ p.length ∧ p.length ≤ 9 := by
  by_cases hn : 1 ≤ p.length ∧ p.length ≤ 9
  · exact hn
  · rw [plane_len_no hn] at h; cases h
theorem plane_first' {p : List Int} (h : plane p = true) : p.getD 0 0 = -1 := by
  by_cases hx : p.getD 0 0 = -1
  · exact hx
  · rw [plane_head hx] at h; cases h
theorem levels_len (p : List Int) : (levels p).length ≤ 9 := by
  cases h : plane p with
  | false => rw [levels_no h]; simp
  | true =>
    have := plane_len' h
    rw [levels_yes h]; simp [len_lvGo]; omega
/-- What holds at the head of a round: k vertices are done. -/
structure LvAt (p : List Int) (k : Nat) (s : List Nat) (pre : List Int) : Prop where
  len : pre.length = k
  sum : pre ++ lvGo k s (p.drop k) = levels p
  ok : LvOk pre s
  rest : plGo k s (p.drop k) = true
  small : s.length ≤ k
theorem LvAt.start {p : List Int} (h : plane p = true) : LvAt p 1 [0] [0] := by
  have h1 := plane_len' h
  refine ⟨rfl, by rw [levels_yes h]; rfl, ⟨by simp, rfl, trivial⟩, ?_, by simp⟩
  rw [← plane_ok h1.1 h1.2 (plane_first' h)]; exact h
theorem LvAt.step {p : List Int} {k : Nat} {s : List Nat} {pre : List Int} (h : LvAt p k s pre) (hk : k < p.length) :
    ∃ (a : Nat) (t : List Nat), p.getD k 0 = (a : Int) ∧ a < k ∧ pre.getD a 0 = (t.length : Int) ∧ t.length ≤ k ∧ LvAt p (k + 1) (k :: a :: t) (pre ++ [(t.length : Int) + 1]) := by
  have hd := drop_one p k hk
  have hr := h.rest
  have hs := h.sum
  rw [hd, plGo_cons, Bool.and_eq_true] at hr
  rw [hd] at hs
  simp only [lvGo] at hs
  have ho := h.ok.pop (x := p.getD k 0)
  cases hp : popTo (p.getD k 0) s with
  | nil => rw [hp] at hr; simp at hr
  | cons a t =>
    have hx : p.getD k 0 = (a : Int) := by
      have := top_pop (x := p.getD k 0) (s := s) (by rw [hp]; simp)
      rw [hp] at this; exact this.symm
    rw [hp] at hr hs ho
    have hpl := pop_len (p.getD k 0) s
    rw [hp, List.length_cons] at hpl
    have hsm := h.small
    refine ⟨a, t, hx, by have := ho.1; rw [h.len] at this; exact this, ho.2.1, by omega, ?_⟩
    refine ⟨by simp [h.len], by rw [← hs]; simp, ?_, hr.2, by simp; omega⟩
    have := ho.push h.len
    simpa using this

set_option maxRecDepth 100000 in
set_option maxHeartbeats 1000000 in
theorem levelsI (A : Option Addr) (n c : Nat) (p : List Int) (w : World) (hl : p.length = n) (ha : Rd .i64 w A p) (hn : n ≤ 1048576) : Calls Try.prog 25 #[.slice A n c] w (RetI (levels p) w) := by
  have HPl := Lib.hid (fun w' (hb : Below w.heap.size w w') => isPlaneI A n c p w' hl (ha.keep hb) hn)
  have hlit := lit_nil w
  cases hp : plane p with
  | false =>
    rw [hp] at HPl
    rw [levels_no hp]
    clear ha
    go_enter Try.func25, Try.ntmps25
    go_wp2_with (go_at_call 16; refine (HPl.out _ hlit.bel).mono ?_; rintro e w' ⟨rfl, rfl⟩)
    go_ret
    exact RetI.of hlit
  | true =>
    rw [hp] at HPl
    have HS := Lib.hid (LvAt.start hp)
    have h9 := plane_len' hp
    rw [hl] at h9
    obtain ⟨n1, n9⟩ := h9
    obtain ⟨b, o, rfl⟩ := ha.form (by omega)
    have HA := Lib.hid ha
    have HL := Lib.hid hl
    clear ha hl hp
    go_enter Try.func25, Try.ntmps25
    go_wp2_with (go_at_call 16; refine (HPl.out _ hlit.bel).mono ?_; rintro e w' ⟨rfl, rfl⟩)
    go_loopw [3, 13] (fun ov i wr => ∃ (k : Nat) (s : List Nat) (pre : List Int), k ≤ n ∧ i = .int .i64 (k : Int) ∧ pre.length = k ∧ Hid (1 ≤ k → LvAt p k s pre) ∧ Buf w wr 3 ov (pre.map (Value.int .i64))) (fun _ i _ => n - (intOf i).toNat)
    case atStart => exact ⟨0, [], [], by omega, rfl, rfl, fun h => absurd h (by omega), hlit⟩
    case round =>
      obtain ⟨k, s, pre, hk, rfl, hpl, HE, hBr⟩ := hrel
      by_cases hlt : k < n
      · have hck := (HA.out.keep hBr.bel).at_ k (by rw [HL.out]; exact hlt)
        have hlt' : (k : Int) < (n : Int) := by omega
        have hxl : (pre.map (Value.int .i64)).length ≤ 17 := by simp; omega
        by_cases hk0 : k = 0
        · subst hk0
          obtain rfl : pre = [] := List.eq_nil_of_length_eq_zero hpl
          rw [Nat.add_zero] at hck
          obtain ⟨x, hxk⟩ : ∃ x, x = p.getD 0 0 := ⟨_, rfl⟩
          rw [← hxk] at hck
          have ez : (((0 : Nat) : Int) == 0) = true := rfl
          clear hxk hpl
          go_wp2_with (at_builtin; refine buf_append1 elInt rfl _ _ rfl hBr rfl rfl rfl (by omega) ?_; intro v2 w2 hB2 _ _)
          go_roundw
          case rel => exact ⟨1, [0], [0], by omega, rfl, rfl, fun _ => HS.out, hB2⟩
          case measure => simp [intOf]; omega
        · have ez : ((k : Int) == 0) = false := by rw [beq_eq_false_iff_ne]; omega
          obtain ⟨a, t, hxa, hak, hpa, htk, h2⟩ := (HE.out (by omega)).step (by rw [HL.out]; exact hlt)
          rw [hxa] at hck
          obtain ⟨g, N, cap, rfl, hN⟩ := hBr.form' (by simp; omega)
          rw [List.length_map, hpl] at hN
          have hNa : a < N := by omega
          have hca : wr.cell? ⟨g, a, none⟩ = some (.int .i64 (t.length : Int)) := by
            rw [hBr.cellAt a hNa, ← hpa]
            simp [List.getD, show a < pre.length by omega]
          have HE2 := Lib.hid h2
          have HPL := Lib.hid hpl
          obtain ⟨m, hm⟩ : ∃ m, m = t.length := ⟨_, rfl⟩
          rw [← hm] at hca HE2 htk
          clear h2 hxa hpa hpl hN HE hm
          go_wp2_with (at_builtin; refine buf_append1 elInt rfl _ _ rfl hBr rfl rfl rfl (by omega) ?_; intro v2 w2 hB2 _ _)
          go_roundw
          case rel => exact ⟨k + 1, _, pre ++ [(m : Int) + 1], by omega, by go_num, by simp [HPL.out], fun _ => HE2.out, by rw [List.map_append]; exact hB2⟩
          case measure => simp [intOf]; omega
      · obtain rfl : k = n := by omega
        have hF : pre = levels p := by
          rw [← (HE.out (by omega)).sum, List.drop_of_length_le (by rw [HL.out]; exact Nat.le_refl _)]; simp [lvGo]
        rw [hF] at hBr
        clear hF HE
        go_wp2
        go_ret
        exact RetI.of hBr

set_option maxRecDepth 100000 in
set_option maxHeartbeats 1000000 in
theorem levelsS (A : Option Addr) (n c : Nat) (p : List Int) (w : World) (hl : p.length = n) (ha : Rd .i64 w A p) (hn : n ≤ 1048576) : Calls Try.prog 24 #[.slice A n c] w (RetI (levels p) w) := by
  have HPl := Lib.hid (fun w' (hb : Below w.heap.size w w') => isPlaneS A n c p w' hl (ha.keep hb) hn)
  have hlit := lit_nil w
  cases hp : plane p with
  | false =>
    rw [hp] at HPl
    rw [levels_no hp]
    clear ha
    go_enter Try.func24, Try.ntmps24
    go_wp2_with fail
    refine wp_loop_rounds 1 ?_
    rw [rounds_succ]
    go_wp2_with (go_at_call 14; refine (HPl.out _ hlit.bel).mono ?_; rintro e w' ⟨rfl, rfl⟩)
    all_goals
      go_ret
      exact RetI.of hlit
  | true =>
    rw [hp] at HPl
    have HS := Lib.hid (LvAt.start hp)
    have h9 := plane_len' hp
    rw [hl] at h9
    obtain ⟨n1, n9⟩ := h9
    obtain ⟨b, o, rfl⟩ := ha.form (by omega)
    have HA := Lib.hid ha
    have HL := Lib.hid hl
    clear ha hl hp
    go_enter Try.func24, Try.ntmps24
    go_wp2_with fail
    go_loopw [3, 4] (fun ov i wr => ∃ (k : Nat) (s : List Nat) (pre : List Int), k ≤ n ∧ i = .int .i64 (k : Int) ∧ pre.length = k ∧ Hid (1 ≤ k → LvAt p k s pre) ∧ Buf w wr 3 ov (pre.map (Value.int .i64))) (fun _ i _ => n - (intOf i).toNat)
    case atStart => exact ⟨0, [], [], by omega, rfl, rfl, fun h => absurd h (by omega), hlit⟩
    case round =>
      obtain ⟨k, s, pre, hk, rfl, hpl, HE, hBr⟩ := hrel
      have HPr := Lib.hid (HPl.out _ hBr.bel)
      by_cases hlt : k < n
      · have hck := (HA.out.keep hBr.bel).at_ k (by rw [HL.out]; exact hlt)
        have hlt' : (k : Int) < (n : Int) := by omega
        have hxl : (pre.map (Value.int .i64)).length ≤ 17 := by simp; omega
        by_cases hk0 : k = 0
        · subst hk0
          obtain rfl : pre = [] := List.eq_nil_of_length_eq_zero hpl
          rw [Nat.add_zero] at hck
          obtain ⟨x, hxk⟩ : ∃ x, x = p.getD 0 0 := ⟨_, rfl⟩
          rw [← hxk] at hck
          have ez : (((0 : Nat) : Int) == 0) = true := rfl
          clear hxk hpl
          go_wp2_with (first | (go_at_call 14; refine (HPr.out).mono ?_; rintro e w' ⟨rfl, rfl⟩) | (at_builtin; refine buf_append1 elInt rfl _ _ rfl hBr rfl rfl rfl (by omega) ?_; intro v2 w2 hB2 _ _))
          go_roundw
          case rel => exact ⟨1, [0], [0], by omega, rfl, rfl, fun _ => HS.out, hB2⟩
          case measure => simp [intOf]; omega
        · have ez : ((k : Int) == 0) = false := by rw [beq_eq_false_iff_ne]; omega
          obtain ⟨a, t, hxa, hak, hpa, htk, h2⟩ := (HE.out (by omega)).step (by rw [HL.out]; exact hlt)
          rw [hxa] at hck
          obtain ⟨g, N, cap, rfl, hN⟩ := hBr.form' (by simp; omega)
          rw [List.length_map, hpl] at hN
          have hNa : a < N := by omega
          have hca : wr.cell? ⟨g, a, none⟩ = some (.int .i64 (t.length : Int)) := by
            rw [hBr.cellAt a hNa, ← hpa]
            simp [List.getD, show a < pre.length by omega]
          have HE2 := Lib.hid h2
          have HPL := Lib.hid hpl
          obtain ⟨m, hm⟩ : ∃ m, m = t.length := ⟨_, rfl⟩
          rw [← hm] at hca HE2 htk
          clear h2 hxa hpa hpl hN HE hm
          go_wp2_with (first | (go_at_call 14; refine (HPr.out).mono ?_; rintro e w' ⟨rfl, rfl⟩) | (at_builtin; refine buf_append1 elInt rfl _ _ rfl hBr rfl rfl rfl (by omega) ?_; intro v2 w2 hB2 _ _))
          go_roundw
          case rel => exact ⟨k + 1, _, pre ++ [(m : Int) + 1], by omega, by go_num, by simp [HPL.out], fun _ => HE2.out, by rw [List.map_append]; exact hB2⟩
          case measure => simp [intOf]; omega
      · obtain rfl : k = n := by omega
        have hF : pre = levels p := by
          rw [← (HE.out (by omega)).sum, List.drop_of_length_le (by rw [HL.out]; exact Nat.le_refl _)]; simp [lvGo]
        rw [hF] at hBr
        clear hF HE
        go_wp2_with (go_at_call 14; refine (HPr.out).mono ?_; rintro e w' ⟨rfl, rfl⟩)
        go_ret
        exact RetI.of hBr
set_option maxRecDepth 100000 in
set_option maxHeartbeats 2000000 in
theorem law_FnExactLevelsOf (A : Option Addr) (n c : Nat) (zs : List Int) (w : World) (h : Row .i64 w A n zs) : Calls Try.prog 6 #[.slice A n c] w fun e w' => e = .returned (.bool true) ∧ Below w.heap.size w w' := by
  obtain ⟨hl, hm, _, hr⟩ := h
  unfold maxLen at hm
  subst hl
  by_cases hb : zs.length ≤ 1048576
  · have HT := Lib.hid (fun w' (hbw : Below w.heap.size w w') => toIntS A zs.length c zs w' rfl (hr.keep hbw) (by omega))
    have HS := Lib.hid (fun A c w (hr : Rd .i64 w A zs) => levelsS A zs.length c zs w rfl hr hb)
    have HI := Lib.hid (fun A c w (hr : Rd .i64 w A zs) => levelsI A zs.length c zs w rfl hr hb)
    have hn : (levels zs).length ≤ 1073741824 := by have := levels_len zs; omega
    obtain ⟨l, hv⟩ : ∃ l, l = levels zs := ⟨_, rfl⟩
    rw [← hv] at HS HI hn
    skip
    clear hv hr
    go_enter Try.func6, Try.ntmps6
    go_wp2_with fail
    refine (HT.out _ (Below.refl _ _)).mono ?_
    rintro e w1 ⟨A1, c1, rfl, hB1⟩
    go_wp2_with fail
    refine (HS.out _ _ _ hB1.rd).mono ?_
    rintro e w2 ⟨A0, c0, rfl, hB0⟩
    have R0 := Lib.hid hB0.rd
    have L2 := Lib.hid (below_then hB1.bel hB0.bel)
    clear hB1 hB0
    go_wp2_with fail
    refine (HT.out _ L2.out).mono ?_
    rintro e w3 ⟨A3, c3, rfl, hB3⟩
    have G3 := Lib.hid hB3
    clear hB3
    go_wp2_with fail
    refine (HI.out _ _ _ G3.out.rd).mono ?_
    rintro e w4 ⟨A4, c4, rfl, hB4⟩
    have D4 := Lib.hid (G3.out.later hB4)
    have M3 := Lib.hid (G3.out.after hB4.bel)
    have M4 := Lib.hid (hB4.from_ G3.out.bel)
    clear hB4 G3
    go_wp2_with fail
    refine (eqIntS A4 A0 c4 c0 l _ M4.out.rd (R0.out.keep M4.out.bel) hn).mono ?_
    rintro e w5 ⟨rfl, hb5⟩
    have N3 := Lib.hid (M3.out.after hb5)
    have N4 := Lib.hid (M4.out.after hb5)
    clear hb5 M3 M4
    go_wp2_with fail
    refine (HT.out _ (below_then L2.out N3.out.bel)).mono ?_
    rintro e w6 ⟨A6, c6, rfl, hB6⟩
    have P3 := Lib.hid (N3.out.after hB6.bel)
    have P4 := Lib.hid (N4.out.after hB6.bel)
    have R6 := Lib.hid hB6.rd
    clear hB6 N3 N4
    go_wp2_with fail
    refine (eqIntS A3 A6 c3 c6 zs _ P3.out.rd R6.out (by omega)).mono ?_
    rintro e w7 ⟨rfl, hb7⟩
    have Q3 := Lib.hid (P3.out.after hb7)
    have Q4 := Lib.hid (P4.out.after hb7)
    clear hb7 P3 P4 R6
    go_wp2_with fail
    refine (markIntG A3 zs.length c3 zs 1 w2 _ rfl Q3.out (by omega) (by omega)).mono ?_
    rintro e w8 ⟨rfl, hB8, hg8⟩
    have S4 := Lib.hid (Q4.out.kept_ hg8 D4.out (fun k hk => (Q3.out.own.lt k hk).1))
    clear hB8 hg8 Q3 Q4
    have hk1 : decide (((1 : Nat) : Int) + (zs.length : Int) < 0) = false := by simp; omega
    have hk2 : ((1 : Nat) : Int) + (zs.length : Int) ≤ 1073741824 := by omega
    have hk3 : 0 ≤ ((1 : Nat) : Int) + (zs.length : Int) := by omega
    go_wp2_with fail
    refine (eqIntS A4 A0 c4 c0 l _ S4.out.rd (R0.out.keep S4.out.bel) hn).mono ?_
    rintro e w9 ⟨rfl, hb9⟩
    have T4 := Lib.hid (S4.out.after hb9)
    clear hb9 S4
    go_wp2_with fail
    refine (markIntS A4 l.length c4 l 1 w2 _ rfl T4.out hn (by omega)).mono ?_
    rintro e w10 ⟨rfl, hB10, _⟩
    have U4 := Lib.hid hB10
    clear hB10 T4
    go_wp2_with fail
    refine (heldIntS A4 l.length c4 1 _ U4.out.rd hn (by omega)).mono ?_
    rintro e w11 ⟨rfl, hb11⟩
    have V4 := Lib.hid (U4.out.after hb11)
    clear hb11 U4
    go_wp2_with fail
    refine (HT.out _ (below_then L2.out V4.out.bel)).mono ?_
    rintro e w12 ⟨A12, c12, rfl, hB12⟩
    have W4 := Lib.hid (V4.out.after hB12.bel)
    have R12 := Lib.hid hB12.rd
    clear hB12 V4
    go_wp2_with fail
    refine (HI.out _ _ _ R12.out).mono ?_
    rintro e w13 ⟨A13, c13, rfl, hB13⟩
    have X4 := Lib.hid (W4.out.after hB13.bel)
    have R13 := Lib.hid hB13.rd
    clear hB13 W4
    go_wp2_with fail
    refine (eqIntS A13 A0 c13 c0 l _ R13.out (R0.out.keep X4.out.bel) hn).mono ?_
    rintro e w14 ⟨rfl, hb14⟩
    have Y4 := Lib.hid (X4.out.after hb14)
    clear hb14 X4
    go_wp2_with fail
    refine (heldIntS A4 l.length c4 1 _ Y4.out.rd hn (by omega)).mono ?_
    rintro e w15 ⟨rfl, hb15⟩
    go_wp2_with fail
    go_ret
    exact ⟨rfl, below_then L2.out (below_then Y4.out.bel hb15)⟩
  · clear hr
    go_enter Try.func6, Try.ntmps6
    go_wp2
    go_ret
    exact ⟨rfl, Below.refl _ _⟩
end Go.Proofs.Ytndehfkamfmmeaa
