/-
  FormatDiagonals of both packages and its law, walked.
-/
import Derived.Test.YtndehfkamfmmeaaMat
import Derived.Test.YtndehfkamfmmeaaGlue
import Derived.Deep.RegionHeld3
namespace Go.Proofs.Ytndehfkamfmmeaa
open Go.RowKit
def rw_ (zss : List (List Int)) (i : Nat) : List Int := zss.getD i []
def okRow (z : List Int) : Bool := decide (z.length = 2) && (inR (z.getD 0 0) 0 9 && inR (z.getD 1 0) 0 9)
def f2 (z : List Int) : ByteArray := fstr (z.getD 0 0) ++ fstr (z.getD 1 0)
/-- What FormatDiagonals returns. -/
def fdV (zss : List (List Int)) : ByteArray := if zss.length = 0 then ⟨#[110, 111, 110, 101]⟩ else if 20 < zss.length then ByteArray.empty else if zss.all okRow = true then gl ⟨#[32]⟩ (zss.map f2) else ByteArray.empty
theorem fdV_none {zss : List (List Int)} (h : zss.length = 0) : fdV zss = ⟨#[110, 111, 110, 101]⟩ := if_pos h
theorem fdV_long {zss : List (List Int)} (h : 20 < zss.length) : fdV zss = ByteArray.empty := by unfold fdV; rw [if_neg (by omega), if_pos h]
theorem fdV_bad {zss : List (List Int)} {k : Nat} (hk : k < zss.length) (h : okRow (rw_ zss k) = false) : fdV zss = ByteArray.empty := by
  unfold fdV
  rw [if_neg (by omega)]
  split
  · rfl
  · rw [if_neg]
    intro ha
    rw [List.all_eq_true] at ha
    have := ha (rw_ zss k) (by simp [rw_, List.getD, hk])
    rw [h] at this; cases this
theorem fdV_ok {zss : List (List Int)} (h0 : zss.length ≠ 0) (h20 : zss.length ≤ 20) (h : zss.all okRow = true) : fdV zss = gl ⟨#[32]⟩ (zss.map f2) := by
  unfold fdV; rw [if_neg h0, if_neg (by omega), if_pos h]
theorem take_ok_succ {zss : List (List Int)} {k : Nat} (hk : k < zss.length) (h : (zss.take k).all okRow = true) (hr : okRow (rw_ zss k) = true) : (zss.take (k + 1)).all okRow = true := by
  rw [List.take_succ_eq_append_getElem hk, List.all_append, h]
  have : zss[k] = rw_ zss k := by simp [rw_, List.getD, hk]
  rw [this]; simp [hr]
theorem f2_size (z : List Int) : (f2 z).size ≤ 42 := by
  have h1 := fstr_size (z.getD 0 0)
  have h2 := fstr_size (z.getD 1 0)
  unfold f2; rw [ByteArray.size_append]; omega
theorem fstr_pos (x : Int) (h : 0 ≤ x) (h9 : x ≤ 9) : 1 ≤ (fstr x).size := by
  unfold fstr
  rw [strOfNums_size]
  have : ∀ y : Fin 10, 1 ≤ (fmt (y.val : Int)).length := by decide
  have := this ⟨x.toNat, by omega⟩
  rw [show ((⟨x.toNat, by omega⟩ : Fin 10).val : Int) = x by simp; omega] at this
  exact this
theorem map_f2_succ (zss : List (List Int)) (k : Nat) (h : k < zss.length) : (zss.take (k + 1)).map f2 = (zss.take k).map f2 ++ [f2 (rw_ zss k)] := by
  rw [List.take_succ_eq_append_getElem h, List.map_append]; simp only [List.map_cons, List.map_nil]; simp [rw_, List.getD, h]
theorem drop_rw (zss : List (List Int)) (k : Nat) (h : k < zss.length) : zss.drop k = rw_ zss k :: zss.drop (k + 1) := by
  rw [List.drop_eq_getElem_cons h]; simp [rw_, List.getD, h]
theorem RdM.get' {w : World} {b o : Nat} {zss : List (List Int)} (h : RdM w (some ⟨b, o, none⟩) zss) (i : Nat) (hi : i < zss.length) : ∃ Ai ci, (∀ w', Below w.heap.size w w' → w'.cell? ⟨b, o + i, none⟩ = some (.slice Ai (rw_ zss i).length ci)) ∧ (rw_ zss i).length ≤ maxLen ∧ Rd .i64 w Ai (rw_ zss i) := by
  obtain ⟨b', o', Ai, ci, hA, hlt, hc, hm, hr⟩ := h i hi
  simp only [Option.some.injEq, Addr.mk.injEq, and_true] at hA
  obtain ⟨rfl, rfl⟩ := hA
  exact ⟨Ai, ci, fun w' hb => (hb.cell (p := ⟨b, o + i, none⟩) hlt).trans hc, hm, hr⟩
/-- Two numbers in memory, in each world that comes later. -/
theorem two_later {w : World} {A : Option Addr} {z : List Int} (h : Rd .i64 w A z) (h2 : z.length = 2) : ∃ b o, A = some ⟨b, o, none⟩ ∧ ∀ w', Below w.heap.size w w' → w'.cell? ⟨b, o, none⟩ = some (.int .i64 (z.getD 0 0)) ∧ w'.cell? ⟨b, o + 1, none⟩ = some (.int .i64 (z.getD 1 0)) := by
  obtain ⟨b, o, rfl⟩ := h.form (by omega)
  refine ⟨b, o, rfl, fun w' hb => ?_⟩
  have h' := h.keep hb
  have h0 := h'.at_ 0 (by omega)
  rw [Nat.add_zero] at h0
  exact ⟨h0, h'.at_ 1 (by omega)⟩

theorem getD_f2 (zss : List (List Int)) (i : Nat) : ((zss.map f2).getD i ByteArray.empty).size ≤ 64 := by
  by_cases h : i < zss.length
  · have : (zss.map f2).getD i ByteArray.empty = f2 (zss.getD i []) := by simp [List.getD, h]
    rw [this]; have := f2_size (zss.getD i []); omega
  · have : (zss.map f2).getD i ByteArray.empty = ByteArray.empty := by simp [List.getD, List.getElem?_eq_none (Nat.le_of_not_lt h)]
    rw [this]; decide
set_option maxRecDepth 100000 in
set_option maxHeartbeats 2000000 in
theorem fdI (A : Option Addr) (c L : Nat) (zss : List (List Int)) (w : World) (hL : zss.length = L) (hL2 : L ≤ 1048576) (ha : RdM w A zss) : Calls Try.prog 47 #[.slice A L c] w fun e w' => e = .returned (.string (fdV zss)) ∧ Below w.heap.size w w' := by
  by_cases h0 : L = 0
  · have HV := Lib.hid (fdV_none (by omega : zss.length = 0))
    subst h0
    clear ha hL
    go_enter Try.func47, Try.ntmps47
    go_wp2
    go_ret
    exact ⟨by rw [HV.out]; rfl, Below.refl _ _⟩
  · have e0 : ((L : Int) == 0) = false := by rw [beq_eq_false_iff_ne]; omega
    by_cases h20 : 20 < L
    · have HV := Lib.hid (fdV_long (by omega : 20 < zss.length))
      have e1 : ((20 : Int) < (L : Int)) := by omega
      clear ha hL h0
      go_enter Try.func47, Try.ntmps47
      go_wp2
      go_ret
      exact ⟨by rw [HV.out]; rfl, Below.refl _ _⟩
    · have e1 : ¬ ((20 : Int) < (L : Int)) := by omega
      have hlit := lit_nilS w
      have HA := Lib.hid ha
      have HL := Lib.hid hL
      have H0 := Lib.hid h0
      clear ha hL h0
      go_enter Try.func47, Try.ntmps47
      go_wp2
      go_loopw [3, 15] (fun v i wr => ∃ k : Nat, k ≤ L ∧ i = .int .i64 (k : Int) ∧ Hid ((zss.take k).all okRow = true) ∧ Buf w wr 9 v (((zss.take k).map f2).map Value.string)) (fun _ i _ => L - (intOf i).toNat)
      case atStart => exact ⟨0, by omega, rfl, rfl, hlit⟩
      case round =>
        obtain ⟨k, hk, rfl, HO, hBr⟩ := hrel
        by_cases hlt : k < L
        · have hkz : k < zss.length := by rw [HL.out]; exact hlt
          obtain ⟨b, o, rfl⟩ := HA.out.form (by omega)
          obtain ⟨Ak, ck, hck', hmk, hrk⟩ := HA.out.get' k hkz
          have hck := hck' _ hBr.bel
          obtain ⟨m, hm⟩ : ∃ m, m = (rw_ zss k).length := ⟨_, rfl⟩
          rw [← hm] at hck hmk
          unfold maxLen at hmk
          by_cases hm2 : m = 2
          · subst hm2
            obtain ⟨p, u, rfl, hcells⟩ := two_later hrk hm.symm
            obtain ⟨g0, g1⟩ := hcells _ hBr.bel
            have HCL := Lib.hid hcells
            have HOK : Hid (okRow (rw_ zss k) = (inR ((rw_ zss k).getD 0 0) 0 9 && inR ((rw_ zss k).getD 1 0) 0 9)) := by
              show _ = _; unfold okRow; rw [decide_eq_true hm.symm]; rfl
            have HF2 : Hid (f2 (rw_ zss k) = fstr ((rw_ zss k).getD 0 0) ++ fstr ((rw_ zss k).getD 1 0)) := rfl
            obtain ⟨x, hx⟩ : ∃ x, x = (rw_ zss k).getD 0 0 := ⟨_, rfl⟩
            obtain ⟨y, hy⟩ : ∃ y, y = (rw_ zss k).getD 1 0 := ⟨_, rfl⟩
            rw [← hx] at g0 HOK HF2 HCL
            rw [← hy] at g1 HOK HF2 HCL
            clear hx hy hcells hck' hrk hm hmk
            cases i1 : inR x 0 9 with
            | false =>
              have HV := Lib.hid (fdV_bad hkz (by rw [HOK.out, i1]; rfl))
              go_wp2_with (go_at_call 63; refine (withinC _ _ _ _).mono ?_; rintro e w' ⟨rfl, rfl⟩)
              go_ret
              exact ⟨by rw [HV.out]; rfl, hBr.bel⟩
            | true =>
              cases i2 : inR y 0 9 with
              | false =>
                have HV := Lib.hid (fdV_bad hkz (by rw [HOK.out, i1, i2]; rfl))
                go_wp2_with (go_at_call 63; refine (withinC _ _ _ _).mono ?_; rintro e w' ⟨rfl, rfl⟩)
                go_ret
                exact ⟨by rw [HV.out]; rfl, hBr.bel⟩
              | true =>
                have hx9 := inR_out i1
                have hy9 := inR_out i2
                have HFx := Lib.hid (fun w => formatI x w (by omega) (by omega))
                have HFy := Lib.hid (fun w => formatI y w (by omega) (by omega))
                have HO2 := Lib.hid (take_ok_succ hkz HO.out (by rw [HOK.out, i1, i2]; rfl))
                have HM := Lib.hid (map_f2_succ zss k hkz)
                have s1 : (strOfNums (fmt x)).size ≤ 21 := fstr_size x
                have s2 : (strOfNums (fmt y)).size ≤ 21 := fstr_size y
                have HE : Hid (f2 (rw_ zss k) = strOfNums (fmt x) ++ strOfNums (fmt y)) := HF2.out
                obtain ⟨X, hX⟩ : ∃ X, X = strOfNums (fmt x) := ⟨_, rfl⟩
                obtain ⟨Y, hY⟩ : ∃ Y, Y = strOfNums (fmt y) := ⟨_, rfl⟩
                rw [← hX] at HFx s1 HE
                rw [← hY] at HFy s2 HE
                have s3 : (X ++ Y).size ≤ 42 := by rw [ByteArray.size_append]; omega
                have hxl : (((zss.take k).map f2).map Value.string).length ≤ 20 := by simp; omega
                have s5 : ¬ (9223372036854775807 < X.size + Y.size) := by omega
                clear hX hY hx9 hy9
                go_wp2_with (go_at_call 63; refine (withinC _ _ _ _).mono ?_; rintro e w' ⟨rfl, rfl⟩)
                go_region_held3 (fun w' => w'.cell? ⟨p, u, none⟩ = some (.int .i64 x) ∧ w'.cell? ⟨p, u + 1, none⟩ = some (.int .i64 y))
                  (first | go_keep)
                  (first
                    | (go_at_call 59; (with_reducible refine (HFx.out _).mono ?_); rintro e w2 ⟨rfl, hb2⟩; have hB2 : Buf w w2 9 _ _ := (by first | exact hBr.after hb2 | exact hBr.drew.after hb2 | exact (hBr.drewN _).after hb2); have q2 := HCL.out _ hB2.bel; have q20 := q2.1; have q21 := q2.2; clear q2)
                    | (go_at_call 59; (with_reducible refine (HFy.out _).mono ?_); rintro e w3 ⟨rfl, hb3⟩; have hB3 : Buf w w3 9 _ _ := hB2.after hb3; have q3 := HCL.out _ hB3.bel; have q30 := q3.1; have q31 := q3.2; clear q3)
                    | (refine step_buf elStr rfl _ _ rfl (by exact hB3.alloc _) rfl w3.heap.size 1 1 [_] (0, 0) rfl (by exact heap_alloc_new w3 _) rfl (by decide) (by intro u hu; simp at hu; subst hu; rfl) (by omega) ?_; intro v4 w4 hB4 _ _; have q4 := HCL.out _ hB4.bel; have q40 := q4.1; have q41 := q4.2; clear q4))
                have HB5 : Hid (Buf w w4 9 v4 (((zss.take (k + 1)).map f2).map Value.string)) := by
                  show Buf _ _ _ _ _
                  rw [HM.out, HE.out, List.map_append]; exact hB4
                clear hBr hB2 hB3 hB4 q20 q21 q30 q31 q40 q41 hb2 hb3
                go_wp2_with fail
                go_roundw
                case rel => exact ⟨k + 1, by omega, by go_num, HO2.out, HB5.out⟩
                case measure => simp [intOf]; omega
          · have HV := Lib.hid (fdV_bad hkz (by unfold okRow; rw [decide_eq_false (by rw [← hm]; exact hm2)]; rfl))
            have e2 : ((m : Int) != 2) = true := by rw [bne_iff_ne]; omega
            clear hm hck' hrk
            go_wp2
            go_ret
            exact ⟨by rw [HV.out]; rfl, hBr.bel⟩
        · obtain rfl : k = L := by omega
          have hall : zss.all okRow = true := by
            have := HO.out
            rw [List.take_of_length_le (by rw [HL.out]; exact Nat.le_refl _)] at this
            exact this
          have HV := Lib.hid (fdV_ok (by rw [HL.out]; exact H0.out) (by rw [HL.out]; omega) hall)
          rw [List.take_of_length_le (by rw [HL.out]; exact Nat.le_refl _)] at hBr
          obtain ⟨A2, c2, rfl, hrd⟩ := hBr.valueS
          have hlen : (zss.map f2).length = k := by rw [List.length_map, HL.out]
          have HG := Lib.hid (gluedI A2 (zss.map f2).length c2 (zss.map f2) ⟨#[32]⟩ _ rfl hrd (by omega) (by decide) (getD_f2 zss))
          have HB := Lib.hid hBr.bel
          obtain ⟨N, hN⟩ : ∃ N, N = (zss.map f2).length := ⟨_, rfl⟩
          rw [← hN] at HG ⊢
          clear hlen hBr hrd hN hall
          go_wp2_with fail
          refine (HG.out).mono ?_
          rintro e w' ⟨rfl, rfl⟩
          go_wp2_with fail
          go_ret
          exact ⟨by rw [HV.out]; rfl, HB.out⟩
set_option maxRecDepth 100000 in
set_option maxHeartbeats 2000000 in
theorem fdS (A : Option Addr) (c L : Nat) (zss : List (List Int)) (w : World) (hL : zss.length = L) (hL2 : L ≤ 1048576) (ha : RdM w A zss) : Calls Try.prog 45 #[.slice A L c] w fun e w' => e = .returned (.string (fdV zss)) ∧ Below w.heap.size w w' := by
  have HA := Lib.hid ha
  have HL := Lib.hid hL
  clear ha hL
  go_enter Try.func45, Try.ntmps45
  go_wp2
  go_loopw [3, 4] (fun v i wr => ∃ (k : Nat) (s : ByteArray), k ≤ L ∧ i = .int .i64 (k : Int) ∧ v = .string s ∧ k ≤ s.size ∧ s.size ≤ 43 * k ∧ (k = 0 ∨ L ≤ 20) ∧ Hid ((zss.take k).all okRow = true) ∧ Hid (glGo ⟨#[32]⟩ s (k == 0) ((zss.drop k).map f2) = gl ⟨#[32]⟩ (zss.map f2)) ∧ Below w.heap.size w wr) (fun _ i _ => L - (intOf i).toNat)
  case atStart => exact ⟨0, ByteArray.empty, by omega, rfl, rfl, by decide, by decide, .inl rfl, rfl, rfl, Below.refl _ _⟩
  case round =>
    obtain ⟨k, s, hk, rfl, rfl, hs0, hs1, hkL, HO, HE, hb⟩ := hrel
    by_cases hlt : k < L
    · have hltI : (k : Int) < (L : Int) := by omega
      have hk0I : (0 : Int) ≤ (k : Int) := by omega
      have hkz : k < zss.length := by rw [HL.out]; exact hlt
      obtain ⟨b, o, rfl⟩ := HA.out.form (by omega)
      obtain ⟨Ak, ck, hck', hmk, hrk⟩ := HA.out.get' k hkz
      have hck := hck' _ hb
      obtain ⟨m, hm⟩ : ∃ m, m = (rw_ zss k).length := ⟨_, rfl⟩
      rw [← hm] at hck hmk hck'
      unfold maxLen at hmk
      by_cases hm2 : m = 2
      · subst hm2
        obtain ⟨p, u, rfl, hcells⟩ := two_later hrk hm.symm
        obtain ⟨g0, g1⟩ := hcells _ hb
        have HCL := Lib.hid hcells
        have HCK := Lib.hid hck'
        have HOK : Hid (okRow (rw_ zss k) = (inR ((rw_ zss k).getD 0 0) 0 9 && inR ((rw_ zss k).getD 1 0) 0 9)) := by
          show _ = _; unfold okRow; rw [decide_eq_true hm.symm]; rfl
        have HF2 : Hid (f2 (rw_ zss k) = fstr ((rw_ zss k).getD 0 0) ++ fstr ((rw_ zss k).getD 1 0)) := rfl
        obtain ⟨x, hx⟩ : ∃ x, x = (rw_ zss k).getD 0 0 := ⟨_, rfl⟩
        obtain ⟨y, hy⟩ : ∃ y, y = (rw_ zss k).getD 1 0 := ⟨_, rfl⟩
        rw [← hx] at g0 HOK HF2 HCL
        rw [← hy] at g1 HOK HF2 HCL
        clear hx hy hcells hck' hrk hm hmk
        cases i1 : inR x 0 9 with
        | false =>
          have HV := Lib.hid (fdV_bad hkz (by rw [HOK.out, i1]; rfl))
          go_wp2_with (go_at_call 62; refine (inC _ _ _ _).mono ?_; rintro e w' ⟨rfl, rfl⟩)
          go_ret
          exact ⟨by rw [HV.out]; rfl, hb⟩
        | true =>
          cases i2 : inR y 0 9 with
          | false =>
            have HV := Lib.hid (fdV_bad hkz (by rw [HOK.out, i1, i2]; rfl))
            go_wp2_with (go_at_call 62; refine (inC _ _ _ _).mono ?_; rintro e w' ⟨rfl, rfl⟩)
            go_ret
            exact ⟨by rw [HV.out]; rfl, hb⟩
          | true =>
            by_cases h20 : 20 < L
            · have HV := Lib.hid (fdV_long (show 20 < zss.length by rw [HL.out]; exact h20))
              have e20 : (20 : Int) < (L : Int) := by omega
              go_wp2_with (go_at_call 62; refine (inC _ _ _ _).mono ?_; rintro e w' ⟨rfl, rfl⟩)
              go_ret
              exact ⟨by rw [HV.out]; rfl, hb⟩
            · have e20 : ¬ ((20 : Int) < (L : Int)) := by omega
              have hx9 := inR_out i1
              have hy9 := inR_out i2
              have HFx := Lib.hid (fun w => formatS x w (by omega) (by omega))
              have HFy := Lib.hid (fun w => formatS y w (by omega) (by omega))
              have s1 : (strOfNums (fmt x)).size ≤ 21 := fstr_size x
              have s2 : (strOfNums (fmt y)).size ≤ 21 := fstr_size y
              have s1p : 1 ≤ (strOfNums (fmt x)).size := fstr_pos x hx9.1 hx9.2
              have HO2 := Lib.hid (take_ok_succ hkz HO.out (by rw [HOK.out, i1, i2]; rfl))
              have hE := HE.out
              rw [drop_rw zss k hkz, List.map_cons, HF2.out] at hE
              have hE' : glGo ⟨#[32]⟩ s (k == 0) ((strOfNums (fmt x) ++ strOfNums (fmt y)) :: (zss.drop (k + 1)).map f2) = gl ⟨#[32]⟩ (zss.map f2) := hE
              obtain ⟨X, hX⟩ : ∃ X, X = strOfNums (fmt x) := ⟨_, rfl⟩
              obtain ⟨Y, hY⟩ : ∃ Y, Y = strOfNums (fmt y) := ⟨_, rfl⟩
              rw [← hX] at HFx s1 s1p hE'
              rw [← hY] at HFy s2 hE'
              clear hX hY hx9 hy9 hE HE
              by_cases hk0 : k = 0
              · subst hk0
                rw [Nat.add_zero] at hck HCK
                have HE2 : Hid (glGo ⟨#[32]⟩ (s ++ X ++ Y) (1 == 0) ((zss.drop 1).map f2) = gl ⟨#[32]⟩ (zss.map f2)) := by
                  show _ = _
                  rw [show s ++ X ++ Y = s ++ (X ++ Y) from ByteArray.append_assoc]; exact hE'
                have t1 : (s ++ X).size ≤ 22 := by rw [ByteArray.size_append]; omega
                have t2 : (s ++ X ++ Y).size ≤ 43 := by rw [ByteArray.size_append]; omega
                have t3 : 1 ≤ (s ++ X ++ Y).size := by rw [ByteArray.size_append, ByteArray.size_append]; omega
                have z1 : ¬ (9223372036854775807 < s.size + X.size) := by omega
                have z2 : ¬ (9223372036854775807 < s.size + X.size + Y.size) := by omega
                clear hE'
                go_wp2_with (go_at_call 62; refine (inC _ _ _ _).mono ?_; rintro e w' ⟨rfl, rfl⟩)
                go_region_held3 (fun w' => w'.cell? ⟨b, o, none⟩ = some (.slice (some ⟨p, u, none⟩) 2 ck) ∧ w'.cell? ⟨p, u, none⟩ = some (.int .i64 x) ∧ w'.cell? ⟨p, u + 1, none⟩ = some (.int .i64 y))
                  (first | go_keep)
                  (first
                    | (go_at_call 61; (with_reducible refine (HFx.out _).mono ?_); rintro e w2 ⟨rfl, hb2⟩; have hw2 : Below w.heap.size w w2 := (by first | exact below_then hb hb2 | exact below_then hb.drew hb2 | exact below_then (below_drewN hb _) hb2); have q2 := HCL.out _ hw2; have q20 := q2.1; have q21 := q2.2; have q22 := HCK.out _ hw2; clear q2)
                    | (go_at_call 61; (with_reducible refine (HFy.out _).mono ?_); rintro e w3 ⟨rfl, hb3⟩; have hw3 : Below w.heap.size w w3 := below_then hw2 hb3; have q3 := HCL.out _ hw3; have q30 := q3.1; have q31 := q3.2; have q32 := HCK.out _ hw3; clear q3))
                have HB := Lib.hid hw3
                clear hb hb2 hb3 hw2 hw3 q20 q21 q22 q30 q31 q32
                go_wp2_with fail
                go_roundw
                case rel => exact ⟨1, _, by omega, rfl, rfl, t3, by omega, .inr (by omega), HO2.out, HE2.out, HB.out⟩
                case measure => simp [intOf]; omega
              · have hkb : (k == 0) = false := by rw [beq_eq_false_iff_ne]; omega
                have hkb2 : (k + 1 == 0) = false := by rw [beq_eq_false_iff_ne]; omega
                rw [hkb] at hE'
                have h0 : (⟨#[32]⟩ : ByteArray).size = 1 := rfl
                have HE2 : Hid (glGo ⟨#[32]⟩ (s ++ ⟨#[32]⟩ ++ X ++ Y) (k + 1 == 0) ((zss.drop (k + 1)).map f2) = gl ⟨#[32]⟩ (zss.map f2)) := by
                  show _ = _
                  rw [hkb2, show s ++ ⟨#[32]⟩ ++ X ++ Y = s ++ ⟨#[32]⟩ ++ (X ++ Y) from ByteArray.append_assoc]; exact hE'
                have t0 : (s ++ ⟨#[32]⟩).size ≤ 43 * k + 1 := by rw [ByteArray.size_append]; omega
                have t1 : (s ++ ⟨#[32]⟩ ++ X).size ≤ 43 * k + 22 := by rw [ByteArray.size_append]; omega
                have t2 : (s ++ ⟨#[32]⟩ ++ X ++ Y).size ≤ 43 * k + 43 := by rw [ByteArray.size_append]; omega
                have t3 : k + 1 ≤ (s ++ ⟨#[32]⟩ ++ X ++ Y).size := by rw [ByteArray.size_append, ByteArray.size_append, ByteArray.size_append]; omega
                have hk1 : 0 < k := by omega
                have z1 : ¬ (9223372036854775807 < s.size + 1 + X.size) := by omega
                have z2 : ¬ (9223372036854775807 < s.size + 1 + X.size + Y.size) := by omega
                clear hE' hkb hkb2 h0 hk0
                go_wp2_with (go_at_call 62; refine (inC _ _ _ _).mono ?_; rintro e w' ⟨rfl, rfl⟩)
                go_region_held3 (fun w' => w'.cell? ⟨b, o + k, none⟩ = some (.slice (some ⟨p, u, none⟩) 2 ck) ∧ w'.cell? ⟨p, u, none⟩ = some (.int .i64 x) ∧ w'.cell? ⟨p, u + 1, none⟩ = some (.int .i64 y))
                  (first | go_keep)
                  (first
                    | (go_at_call 61; (with_reducible refine (HFx.out _).mono ?_); rintro e w2 ⟨rfl, hb2⟩; have hw2 : Below w.heap.size w w2 := (by first | exact below_then hb hb2 | exact below_then hb.drew hb2 | exact below_then (below_drewN hb _) hb2); have q2 := HCL.out _ hw2; have q20 := q2.1; have q21 := q2.2; have q22 := HCK.out _ hw2; clear q2)
                    | (go_at_call 61; (with_reducible refine (HFy.out _).mono ?_); rintro e w3 ⟨rfl, hb3⟩; have hw3 : Below w.heap.size w w3 := below_then hw2 hb3; have q3 := HCL.out _ hw3; have q30 := q3.1; have q31 := q3.2; have q32 := HCK.out _ hw3; clear q3))
                have HB := Lib.hid hw3
                clear hb hb2 hb3 hw2 hw3 q20 q21 q22 q30 q31 q32
                go_wp2_with fail
                go_roundw
                case rel => exact ⟨k + 1, _, by omega, by go_num, rfl, t3, by omega, .inr (by omega), HO2.out, HE2.out, HB.out⟩
                case measure => simp [intOf]; omega
      · have HV := Lib.hid (fdV_bad hkz (by unfold okRow; rw [decide_eq_false (by rw [← hm]; exact hm2)]; rfl))
        have e2 : ((m : Int) != 2) = true := by rw [bne_iff_ne]; omega
        clear hm hck' hrk
        go_wp2
        go_ret
        exact ⟨by rw [HV.out]; rfl, hb⟩
    · obtain rfl : k = L := by omega
      by_cases hk0 : k = 0
      · subst hk0
        have hs : s.size = 0 := by omega
        have HV := Lib.hid (fdV_none HL.out)
        have hem : s.data.toList.isEmpty = true := by
          have : s.data.toList.length = 0 := by simpa using hs
          rw [List.isEmpty_iff]; exact List.eq_nil_of_length_eq_zero this
        have hem2 : s.toList.isEmpty = true := by rw [bytes_list]; exact hem
        clear HO HE hs
        go_wp2
        go_ret
        exact ⟨by rw [HV.out]; rfl, hb⟩
      · have hall : zss.all okRow = true := by
          have := HO.out
          rw [List.take_of_length_le (by rw [HL.out]; exact Nat.le_refl _)] at this
          exact this
        have h20 : k ≤ 20 := by omega
        have HV := Lib.hid (fdV_ok (by rw [HL.out]; exact hk0) (by rw [HL.out]; exact h20) hall)
        have HF : Hid (s = gl ⟨#[32]⟩ (zss.map f2)) := by
          have := HE.out
          rw [List.drop_of_length_le (by rw [HL.out]; exact Nat.le_refl _)] at this
          exact this
        have hem : s.data.toList.isEmpty = false := by
          rw [List.isEmpty_eq_false_iff]
          intro h
          have : s.data.toList.length = s.size := by simp
          rw [h] at this; simp only [List.length_nil] at this; omega
        have hem2 : s.toList.isEmpty = false := by rw [bytes_list]; exact hem
        clear HO HE hall hk0 hkL
        go_wp2
        go_ret
        exact ⟨by rw [HV.out, ← HF.out]; rfl, hb⟩
theorem fd_law (zss : List (List Int)) (hln : zss.length ≤ 1048576) (_ : zss.length + szRest zss ≤ 1048576) : ∃ s, (∀ A c w, zss.length ≤ c → c ≤ 9223372036854775807 → RdM w A zss → Calls Try.prog 45 #[.slice A zss.length c] w fun e w' => e = .returned (.string s) ∧ Below w.heap.size w w') ∧
    (∀ A c w, zss.length ≤ c → c ≤ 9223372036854775807 → RdM w A zss → Calls Try.prog 47 #[.slice A zss.length c] w fun e w' => e = .returned (.string s) ∧ Below w.heap.size w w') :=
  ⟨_, fun A c w _ _ ha => fdS A c _ zss w rfl hln ha, fun A c w _ _ ha => fdI A c _ zss w rfl hln ha⟩
set_option maxRecDepth 100000 in
set_option maxHeartbeats 2000000 in
theorem law_FnExactFormatDiagonals (A : Option Addr) (L c : Nat) (zss : List (List Int)) (w : World) (h : Mat w A L zss) : Calls Try.prog 12 #[.slice A L c] w fun e w' => e = .returned (.bool true) ∧ Below w.heap.size w w' := by
  obtain ⟨hl, hm, hr⟩ := h
  subst hl
  have HSz := Lib.hid (szIntSS A zss.length c zss w rfl hm hr)
  unfold maxLen at hm
  by_cases hb : szV zss < 0
  · obtain ⟨v, hv⟩ : ∃ v, v = szV zss := ⟨_, rfl⟩
    rw [← hv] at HSz hb
    clear hr hv
    go_enter Try.func12, Try.ntmps12
    go_wp2_with fail
    refine (HSz.out).mono ?_
    rintro e w' ⟨rfl, rfl⟩
    go_wp2_with fail
    go_ret
    exact ⟨rfl, Below.refl _ _⟩
  · have hsz := szV_ok hb
    have hz := sz_row hsz
    have hln : zss.length ≤ 1048576 := by omega
    obtain ⟨v, hv⟩ : ∃ v, v = szV zss := ⟨_, rfl⟩
    rw [← hv] at HSz hb
    have HZ := Lib.hid hz
    have HT := Lib.hid (fun w' (hbw : Below w.heap.size w w') => toIntSS A zss.length c zss w' rfl hln hz (hr.keep hbw))
    obtain ⟨s, hS, hI⟩ := fd_law zss hln hsz
    have HS := Lib.hid hS
    have HI := Lib.hid hI
    clear hS hI hv hr hz hsz
    go_enter Try.func12, Try.ntmps12
    go_wp2_with fail
    refine (HSz.out).mono ?_
    rintro e w' ⟨rfl, rfl⟩
    go_wp2_with fail
    refine (HT.out _ (Below.refl _ _)).mono ?_
    rintro e w1 ⟨A1, c1, rs1, rfl, hO1⟩
    go_wp2_with fail
    refine (HS.out _ _ _ hO1.outer.cap hO1.outer.capm hO1.rd).mono ?_
    rintro e w2 ⟨rfl, hb2⟩
    have L2 := Lib.hid (below_then hO1.outer.bel hb2)
    clear hO1 hb2
    go_wp2_with fail
    refine (HT.out _ L2.out).mono ?_
    rintro e w3 ⟨A3, c3, rs3, rfl, hO3⟩
    have G3 := Lib.hid hO3
    have L3 := Lib.hid (below_then L2.out hO3.outer.bel)
    clear hO3
    go_wp2_with fail
    refine (HI.out _ _ _ G3.out.outer.cap G3.out.outer.capm G3.out.rd).mono ?_
    rintro e w4 ⟨rfl, hb4⟩
    have L4 := Lib.hid (below_then L3.out hb4)
    have R4 := Lib.hid (G3.out.rd.keep hb4)
    clear hb4
    go_wp2_with fail
    refine (HT.out _ L4.out).mono ?_
    rintro e w5 ⟨A5, c5, rs5, rfl, hO5⟩
    have G5 := Lib.hid hO5
    have L5 := Lib.hid (below_then L4.out hO5.outer.bel)
    clear hO5
    go_wp2_with fail
    refine (eqIntSS A3 A5 c3 c5 zss _ (R4.out.keep G5.out.outer.bel) G5.out.rd hln HZ.out).mono ?_
    rintro e w6 ⟨rfl, hb6⟩
    go_wp2_with fail
    go_ret
    exact ⟨rfl, below_then L5.out hb6⟩
end Go.Proofs.Ytndehfkamfmmeaa
