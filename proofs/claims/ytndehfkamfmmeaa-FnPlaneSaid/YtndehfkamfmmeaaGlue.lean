/-
  impl.glued; FormatPlane of both packages and its law, walked.
-/
import Derived.Test.YtndehfkamfmmeaaStrL
import Derived.Test.YtndehfkamfmmeaaFmtS
import Derived.Test.YtndehfkamfmmeaaPlI
import Derived.Test.YtndehfkamfmmeaaLev
namespace Go.Proofs.Ytndehfkamfmmeaa
open Go.RowKit
/-- Texts in a row with z between them: s is what is written already. -/
def glGo (z : ByteArray) : ByteArray → Bool → List ByteArray → ByteArray
  | s, _, [] => s
  | s, first, t :: r => glGo z ((if first = true then s else s ++ z) ++ t) false r
def gl (z : ByteArray) (l : List ByteArray) : ByteArray := glGo z ByteArray.empty true l
theorem RdS.at_ {w : World} {b o : Nat} {l : List ByteArray} (h : RdS w (some ⟨b, o, none⟩) l) (i : Nat) (hi : i < l.length) : w.cell? ⟨b, o + i, none⟩ = some (.string (l.getD i ByteArray.empty)) := by
  obtain ⟨b', o', hA, _, hc⟩ := h i hi
  simp only [Option.some.injEq, Addr.mk.injEq, and_true] at hA
  obtain ⟨rfl, rfl⟩ := hA
  exact hc
theorem RdS.form {w : World} {A : Option Addr} {l : List ByteArray} (h : RdS w A l) (h0 : 0 < l.length) : ∃ b o, A = some ⟨b, o, none⟩ := by
  obtain ⟨b, o, hA, _⟩ := h 0 h0
  exact ⟨b, o, hA⟩
theorem dropS_one (l : List ByteArray) (j : Nat) (h : j < l.length) : l.drop j = l.getD j ByteArray.empty :: l.drop (j + 1) := by
  rw [List.drop_eq_getElem_cons h]
  simp [List.getD, h]

set_option maxRecDepth 100000 in
set_option maxHeartbeats 1000000 in
theorem gluedI (A : Option Addr) (n c : Nat) (l : List ByteArray) (z : ByteArray) (w : World) (hl : l.length = n) (ha : RdS w A l) (hn : n ≤ 64) (hz : z.size ≤ 1) (hs : ∀ i, (l.getD i ByteArray.empty).size ≤ 64) :
    Calls Try.prog 66 #[.slice A n c, .string z] w fun e w' => e = .returned (.string (gl z l)) ∧ w = w' := by
  have HA := Lib.hid ha
  have HL := Lib.hid hl
  have HZ := Lib.hid hs
  clear ha hl hs
  go_enter Try.func66, Try.ntmps66
  go_wp2_with fail
  go_loop [5, 10] (fun t i => ∃ (k : Nat) (s : ByteArray), k ≤ n ∧ i = .int .i64 (k : Int) ∧ t = .string s ∧ s.size ≤ 65 * k ∧ Hid (glGo z s (k == 0) (l.drop k) = gl z l)) (fun _ i => n - (intOf i).toNat)
  case atStart => exact ⟨0, ByteArray.empty, by omega, rfl, rfl, by decide, rfl⟩
  case round =>
    obtain ⟨k, s, hk, rfl, rfl, hsz, HE⟩ := hrel
    by_cases hlt : k < n
    · obtain ⟨b, o, rfl⟩ := HA.out.form (by rw [HL.out]; omega)
      have hck := HA.out.at_ k (by rw [HL.out]; exact hlt)
      have hdk := dropS_one l k (by rw [HL.out]; exact hlt)
      have hts := HZ.out k
      obtain ⟨t, ht⟩ : ∃ t, t = l.getD k ByteArray.empty := ⟨_, rfl⟩
      rw [← ht] at hck hdk hts
      have hE := HE.out
      rw [hdk] at hE
      by_cases hk0 : k = 0
      · subst hk0
        have HE2 : Hid (glGo z (s ++ t) (1 == 0) (l.drop 1) = gl z l) := hE
        rw [Nat.add_zero] at hck
        have h2 : (s ++ t).size ≤ 65 := by rw [ByteArray.size_append]; omega
        clear hE hdk ht HE
        go_wp2
        go_round
        case rel => exact ⟨1, _, by omega, rfl, rfl, by omega, HE2.out⟩
        case measure => simp [intOf]; omega
      · have hb : (k == 0) = false := by rw [beq_eq_false_iff_ne]; omega
        have hb2 : (k + 1 == 0) = false := by rw [beq_eq_false_iff_ne]; omega
        rw [hb] at hE
        have HE2 : Hid (glGo z (s ++ z ++ t) (k + 1 == 0) (l.drop (k + 1)) = gl z l) := by show _ = _; rw [hb2]; exact hE
        have h1 : (s ++ z).size ≤ 65 * k + 1 := by rw [ByteArray.size_append]; omega
        have h2 : (s ++ z ++ t).size ≤ 65 * k + 65 := by rw [ByteArray.size_append]; omega
        have hk1 : 0 < k := by omega
        clear hE hdk ht HE hb hb2 hk0
        go_wp2
        go_round
        case rel => exact ⟨k + 1, _, by omega, by go_num, rfl, by omega, HE2.out⟩
        case measure => simp [intOf]; omega
    · obtain rfl : k = n := by omega
      have HF : Hid (s = gl z l) := by
        have := HE.out
        rw [List.drop_of_length_le (by rw [HL.out]; exact Nat.le_refl _)] at this
        exact this
      go_wp2
      go_ret
      exact ⟨by rw [← HF.out]; rfl, rfl⟩
def fstr (x : Int) : ByteArray := strOfNums (fmt x)
theorem fstr_size (x : Int) : (fstr x).size ≤ 21 := by
  have h1 := len_dig 20 x.natAbs
  unfold fstr fmt
  rw [strOfNums_size]
  split
  · simp
  · simp only [List.length_append, List.length_reverse, sgn]
    split <;> simp <;> omega
theorem getD_map_fstr (p : List Int) (i : Nat) : ((p.map fstr).getD i ByteArray.empty).size ≤ 64 := by
  by_cases h : i < p.length
  · have : (p.map fstr).getD i ByteArray.empty = fstr (p.getD i 0) := by simp [List.getD, h]
    rw [this]; have := fstr_size (p.getD i 0); omega
  · have : (p.map fstr).getD i ByteArray.empty = ByteArray.empty := by simp [List.getD, List.getElem?_eq_none (Nat.le_of_not_lt h)]
    rw [this]; decide
/-- What FormatPlane returns. -/
def fpV (p : List Int) : ByteArray := if plane p = true then gl ⟨#[44]⟩ (p.map fstr) else ByteArray.empty
theorem fpV_yes {p : List Int} (h : plane p = true) : fpV p = gl ⟨#[44]⟩ (p.map fstr) := if_pos h
theorem fpV_no {p : List Int} (h : plane p = false) : fpV p = ByteArray.empty := if_neg (by rw [h]; simp)
/-- All parents are small numbers. -/
theorem plGo_small : ∀ (r : List Int) (i : Nat) (s : List Nat), (∀ a ∈ s, a < i) → plGo i s r = true → ∀ x ∈ r, 0 ≤ x ∧ x < (i : Int) + r.length := by
  intro r
  induction r with
  | nil => intro i s _ _ x hx; cases hx
  | cons y r ih =>
    intro i s hs hp x hx
    rw [plGo_cons, Bool.and_eq_true] at hp
    have hne : popTo y s ≠ [] := by intro h; rw [h] at hp; simp at hp
    have hall : ∀ a ∈ i :: popTo y s, a < i + 1 := by
      intro a ha
      rcases List.mem_cons.1 ha with rfl | h
      · omega
      · have := hs a (pop_sub a h); omega
    rcases List.mem_cons.1 hx with rfl | hx
    · cases hq : popTo x s with
      | nil => exact absurd hq hne
      | cons a t =>
        have h1 : (a : Int) = x := by have := top_pop hne; rw [hq] at this; exact this
        have h2 := hs a (pop_sub (x := x) a (by rw [hq]; simp))
        simp; omega
    · have := ih (i + 1) _ hall hp.2 x hx
      simp; omega
theorem plane_small {p : List Int} (h : plane p = true) (k : Nat) : -1 ≤ p.getD k 0 ∧ p.getD k 0 ≤ 9 := by
  have h1 := plane_len' h
  have h2 := plane_first' h
  by_cases hk : k < p.length
  · cases p with
    | nil => cases hk
    | cons x r =>
      have hx : x = -1 := by simpa using h2
      cases k with
      | zero => subst hx; show -1 ≤ (-1 : Int) ∧ (-1 : Int) ≤ 9; decide
      | succ k =>
        have hr : plGo 1 [0] r = true := by rw [plane_ok h1.1 h1.2 h2] at h; exact h
        have hk' : k < r.length := by simpa using hk
        have := plGo_small r 1 [0] (by simp) hr (r.getD k 0) (by simp [List.getD, hk'])
        simp at h1
        rw [List.getD_cons_succ]; omega
  · have : p.getD k 0 = 0 := by simp [List.getD, List.getElem?_eq_none (Nat.le_of_not_lt hk)]
    rw [this]; decide
theorem lit_nilS (w : World) : Buf w (w.alloc (.cells #[] 9)) 9 (.slice (some ⟨w.heap.size, 0, none⟩) 0 0) (([] : List ByteArray).map Value.string) := Buf.lit (Below.refl _ w) [] (by decide)
theorem map_take_succ (p : List Int) (k : Nat) (h : k < p.length) : (p.take (k + 1)).map fstr = (p.take k).map fstr ++ [fstr (p.getD k 0)] := by
  rw [List.take_succ_eq_append_getElem h, List.map_append]; simp only [List.map_cons, List.map_nil]; simp [List.getD, h]

set_option maxRecDepth 100000 in
set_option maxHeartbeats 1000000 in
theorem fpI (A : Option Addr) (n c : Nat) (p : List Int) (w : World) (hl : p.length = n) (ha : Rd .i64 w A p) (hn : n ≤ 1048576) : Calls Try.prog 31 #[.slice A n c] w fun e w' => e = .returned (.string (fpV p)) ∧ Below w.heap.size w w' := by
  have HPl := Lib.hid (isPlaneI A n c p w hl ha hn)
  have hlit := lit_nilS w
  cases hp : plane p with
  | false =>
    rw [hp] at HPl
    rw [fpV_no hp]
    clear ha
    go_enter Try.func31, Try.ntmps31
    go_wp2_with (go_at_call 16; refine (HPl.out).mono ?_; rintro e w' ⟨rfl, rfl⟩)
    go_ret
    exact ⟨rfl, Below.refl _ _⟩
  | true =>
    rw [hp] at HPl
    have HV := Lib.hid (fpV_yes hp)
    have HSm := Lib.hid (plane_small hp)
    have h9 := plane_len' hp
    rw [hl] at h9
    obtain ⟨n1, n9⟩ := h9
    obtain ⟨b, o, rfl⟩ := ha.form (by omega)
    have HA := Lib.hid ha
    have HL := Lib.hid hl
    clear ha hl hp
    go_enter Try.func31, Try.ntmps31
    go_wp2_with (go_at_call 16; refine (HPl.out).mono ?_; rintro e w' ⟨rfl, rfl⟩)
    go_loopw [3, 12] (fun v i wr => ∃ k : Nat, k ≤ n ∧ i = .int .i64 (k : Int) ∧ Buf w wr 9 v (((p.take k).map fstr).map Value.string)) (fun _ i _ => n - (intOf i).toNat)
    case atStart => exact ⟨0, by omega, rfl, hlit⟩
    case round =>
      obtain ⟨k, hk, rfl, hBr⟩ := hrel
      by_cases hlt : k < n
      · have hck := (HA.out.keep hBr.bel).at_ k (by rw [HL.out]; exact hlt)
        have hsm := HSm.out k
        have HM := Lib.hid (map_take_succ p k (by rw [HL.out]; exact hlt))
        obtain ⟨x, hx⟩ : ∃ x, x = p.getD k 0 := ⟨_, rfl⟩
        rw [← hx] at hck hsm HM
        have HFm := Lib.hid (fun w => formatI x w (by omega) (by omega))
        have hxl : (((p.take k).map fstr).map Value.string).length ≤ 17 := by simp; omega
        clear hx hsm
        go_wp2_with (first | (go_at_call 59; refine (HFm.out _).mono ?_; rintro e w2 ⟨rfl, hb2⟩; have hBr2 := hBr.after hb2) | (at_builtin; refine buf_append1 elStr rfl _ _ rfl hBr2 rfl rfl rfl (by omega) ?_; intro v3 w3 hB3 _ _))
        have HB3 : Hid (Buf w w3 9 v3 (((p.take (k + 1)).map fstr).map Value.string)) := by
          show Buf _ _ _ _ _
          rw [HM.out, List.map_append]; exact hB3
        clear hBr hBr2 hb2 hB3
        go_roundw
        case rel => exact ⟨k + 1, by omega, by go_num, HB3.out⟩
        case measure => simp [intOf]; omega
      · obtain rfl : k = n := by omega
        rw [List.take_of_length_le (by rw [HL.out]; exact Nat.le_refl _)] at hBr
        obtain ⟨A2, c2, rfl, hrd⟩ := hBr.valueS
        have hlen : (p.map fstr).length = k := by rw [List.length_map, HL.out]
        have HG := Lib.hid (gluedI A2 (p.map fstr).length c2 (p.map fstr) ⟨#[44]⟩ _ rfl hrd (by omega) (by decide) (getD_map_fstr p))
        have HB := Lib.hid hBr.bel
        obtain ⟨N, hN⟩ : ∃ N, N = (p.map fstr).length := ⟨_, rfl⟩
        rw [← hN] at HG ⊢
        clear hlen hBr hrd hN
        go_wp2_with fail
        refine (HG.out).mono ?_
        rintro e w' ⟨rfl, rfl⟩
        go_wp2_with fail
        go_ret
        exact ⟨by rw [HV.out]; rfl, HB.out⟩
set_option maxRecDepth 100000 in
set_option maxHeartbeats 1000000 in
theorem fpS (A : Option Addr) (n c : Nat) (p : List Int) (w : World) (hl : p.length = n) (ha : Rd .i64 w A p) (hn : n ≤ 1048576) : Calls Try.prog 30 #[.slice A n c] w fun e w' => e = .returned (.string (fpV p)) ∧ Below w.heap.size w w' := by
  have HPl := Lib.hid (fun w' (hb : Below w.heap.size w w') => isPlaneS A n c p w' hl (ha.keep hb) hn)
  cases hp : plane p with
  | false =>
    rw [hp] at HPl
    rw [fpV_no hp]
    clear ha
    go_enter Try.func30, Try.ntmps30
    go_wp2_with fail
    refine wp_loop_rounds 1 ?_
    rw [rounds_succ]
    go_wp2_with (go_at_call 14; refine (HPl.out _ (Below.refl _ _)).mono ?_; rintro e w' ⟨rfl, rfl⟩)
    all_goals
      go_ret
      exact ⟨rfl, Below.refl _ _⟩
  | true =>
    rw [hp] at HPl
    have HV := Lib.hid (fpV_yes hp)
    have HSm := Lib.hid (plane_small hp)
    have h9 := plane_len' hp
    rw [hl] at h9
    obtain ⟨n1, n9⟩ := h9
    obtain ⟨b, o, rfl⟩ := ha.form (by omega)
    have HA := Lib.hid ha
    have HL := Lib.hid hl
    clear ha hl hp
    go_enter Try.func30, Try.ntmps30
    go_wp2_with fail
    go_loopw [3, 4] (fun t i wr => ∃ (k : Nat) (s : ByteArray), k ≤ n ∧ i = .int .i64 (k : Int) ∧ t = .string s ∧ s.size ≤ 22 * k ∧ Hid (glGo ⟨#[44]⟩ s (k == 0) ((p.drop k).map fstr) = fpV p) ∧ Below w.heap.size w wr) (fun _ i _ => n - (intOf i).toNat)
    case atStart => exact ⟨0, ByteArray.empty, by omega, rfl, rfl, by decide, (by rw [HV.out]; rfl), Below.refl _ _⟩
    case round =>
      obtain ⟨k, s, hk, rfl, rfl, hsz, HE, hb⟩ := hrel
      have HPr := Lib.hid (HPl.out _ hb)
      by_cases hlt : k < n
      · have hck := (HA.out.keep hb).at_ k (by rw [HL.out]; exact hlt)
        have hdk := drop_one p k (by rw [HL.out]; exact hlt)
        have hsm := HSm.out k
        have hlt' : (k : Int) < (n : Int) := by omega
        obtain ⟨x, hx⟩ : ∃ x, x = p.getD k 0 := ⟨_, rfl⟩
        rw [← hx] at hck hsm hdk
        have HFm := Lib.hid (fun w => formatS x w (by omega) (by omega))
        have hts : (strOfNums (fmt x)).size ≤ 21 := fstr_size x
        have hE := HE.out
        rw [hdk, List.map_cons] at hE
        by_cases hk0 : k = 0
        · subst hk0
          have HE2 : Hid (glGo ⟨#[44]⟩ (s ++ strOfNums (fmt x)) (1 == 0) ((p.drop 1).map fstr) = fpV p) := hE
          rw [Nat.add_zero] at hck
          obtain ⟨t, ht⟩ : ∃ t, t = strOfNums (fmt x) := ⟨_, rfl⟩
          rw [← ht] at HFm hts HE2
          have h2 : (s ++ t).size ≤ 22 := by rw [ByteArray.size_append]; omega
          clear hE hdk hx HE ht hsm
          go_wp2_with (first | (go_at_call 14; refine (HPr.out).mono ?_; rintro e w' ⟨rfl, rfl⟩) | (go_at_call 61; refine (HFm.out _).mono ?_; rintro e w2 ⟨rfl, hb2⟩))
          have HB := Lib.hid (below_then hb hb2)
          clear hb hb2
          go_roundw
          case rel => exact ⟨1, _, by omega, rfl, rfl, by omega, HE2.out, HB.out⟩
          case measure => simp [intOf]; omega
        · have hbk : (k == 0) = false := by rw [beq_eq_false_iff_ne]; omega
          have hb2k : (k + 1 == 0) = false := by rw [beq_eq_false_iff_ne]; omega
          rw [hbk] at hE
          have HE2 : Hid (glGo ⟨#[44]⟩ (s ++ ⟨#[44]⟩ ++ strOfNums (fmt x)) (k + 1 == 0) ((p.drop (k + 1)).map fstr) = fpV p) := by show _ = _; rw [hb2k]; exact hE
          obtain ⟨t, ht⟩ : ∃ t, t = strOfNums (fmt x) := ⟨_, rfl⟩
          rw [← ht] at HFm hts HE2
          have h0 : (⟨#[44]⟩ : ByteArray).size = 1 := rfl
          have h1 : (s ++ ⟨#[44]⟩).size ≤ 22 * k + 1 := by rw [ByteArray.size_append]; omega
          have h2 : (s ++ ⟨#[44]⟩ ++ t).size ≤ 22 * k + 22 := by rw [ByteArray.size_append]; omega
          have hk1 : 0 < k := by omega
          clear hE hdk hx HE ht hsm hbk hb2k hk0 h0
          go_wp2_with (first | (go_at_call 14; refine (HPr.out).mono ?_; rintro e w' ⟨rfl, rfl⟩) | (go_at_call 61; refine (HFm.out _).mono ?_; rintro e w2 ⟨rfl, hb2⟩))
          have HB := Lib.hid (below_then hb hb2)
          clear hb hb2
          go_roundw
          case rel => exact ⟨k + 1, _, by omega, by go_num, rfl, by omega, HE2.out, HB.out⟩
          case measure => simp [intOf]; omega
      · obtain rfl : k = n := by omega
        have HF : Hid (s = fpV p) := by
          have := HE.out
          rw [List.drop_of_length_le (by rw [HL.out]; exact Nat.le_refl _)] at this
          exact this
        clear HE
        go_wp2_with (go_at_call 14; refine (HPr.out).mono ?_; rintro e w' ⟨rfl, rfl⟩)
        go_ret
        exact ⟨by rw [← HF.out]; rfl, hb⟩
set_option maxRecDepth 100000 in
set_option maxHeartbeats 1000000 in
theorem law_FnExactFormatPlane (A : Option Addr) (n c : Nat) (zs : List Int) (w : World) (h : Row .i64 w A n zs) : Calls Try.prog 9 #[.slice A n c] w fun e w' => e = .returned (.bool true) ∧ Below w.heap.size w w' := by
  obtain ⟨hl, hm, _, hr⟩ := h
  unfold maxLen at hm
  subst hl
  by_cases hb : zs.length ≤ 1048576
  · have HR := Lib.hid hr
    have HT := Lib.hid (fun w' (hbw : Below w.heap.size w w') => toIntS A zs.length c zs w' rfl (hr.keep hbw) (by omega))
    have HS := Lib.hid (fun A c w (hr : Rd .i64 w A zs) => fpS A zs.length c zs w rfl hr hb)
    have HI := Lib.hid (fun A c w (hr : Rd .i64 w A zs) => fpI A zs.length c zs w rfl hr hb)
    obtain ⟨b, hv⟩ : ∃ b, b = fpV zs := ⟨_, rfl⟩
    rw [← hv] at HS HI
    clear hv hr
    go_enter Try.func9, Try.ntmps9
    go_wp2_with fail
    refine (HT.out _ (Below.refl _ _)).mono ?_
    rintro e w1 ⟨A1, c1, rfl, hB1⟩
    go_wp2_with fail
    refine (HS.out _ _ _ hB1.rd).mono ?_
    rintro e w2 ⟨rfl, hb2⟩
    have L2 := Lib.hid (below_then hB1.bel hb2)
    clear hB1 hb2
    go_wp2_with fail
    refine (HT.out _ L2.out).mono ?_
    rintro e w3 ⟨A3, c3, rfl, hB3⟩
    have G3 := Lib.hid hB3
    have L3 := Lib.hid (below_then L2.out hB3.bel)
    clear hB3
    go_wp2_with fail
    refine (HI.out _ _ _ G3.out.rd).mono ?_
    rintro e w4 ⟨rfl, hb4⟩
    have L4 := Lib.hid (below_then L3.out hb4)
    have R4 := Lib.hid (G3.out.rd.keep hb4)
    clear hb4
    go_wp2_with fail
    refine (HT.out _ L4.out).mono ?_
    rintro e w5 ⟨A5, c5, rfl, hB5⟩
    have L5 := Lib.hid (below_then L4.out hB5.bel)
    have G5 := Lib.hid hB5
    clear hB5
    go_wp2_with fail
    refine (eqIntS A3 A5 c3 c5 zs _ (R4.out.keep G5.out.bel) G5.out.rd (by omega)).mono ?_
    rintro e w6 ⟨rfl, hb6⟩
    go_wp2_with fail
    go_ret
    exact ⟨rfl, below_then L5.out hb6⟩
  · clear hr
    go_enter Try.func9, Try.ntmps9
    go_wp2
    go_ret
    exact ⟨rfl, Below.refl _ _⟩
end Go.Proofs.Ytndehfkamfmmeaa
