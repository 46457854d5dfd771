/-
  PathOfHeights of both packages and its law, walked.
-/
import Derived.Test.YtmjnafpjfodbdaaOps
import Derived.Test.YtmjnafpjfodbdaaIntArg
import Derived.Test.YtmjnafpjfodbdaaPohP
import Derived.Test.YtmjnafpjfodbdaaHts
import Derived.Test.YtmjnafpjfodbdaaRev
namespace Go.Proofs.Ytmjnafpjfodbdaa
open Go.RowKit
set_option maxRecDepth 100000 in
theorem equalI (A B : Option Addr) (m n c d : Nat) (l l2 : List Int) (w : World) (hl : l.length = m) (hl2 : l2.length = n) (ha : Rd .i64 w A l) (hb : Rd .i64 w B l2) (hm : m ≤ 1073741824) (hn : n ≤ 1073741824) :
    Calls Try.prog 43 #[.slice A m c, .slice B n d] w fun e w' => e = .returned (.bool (decide (l = l2))) ∧ Below w.heap.size w w' := by
  by_cases hmn : m = n
  · subst hmn
    have HA := Lib.hid ha
    have HB := Lib.hid hb
    clear ha hb
    go_enter Try.func43, Try.ntmps43
    go_wp2
    go_loopw [13] (fun i wr => ∃ k : Nat, k ≤ m ∧ i = .int .i64 k ∧ Hid (l.take k = l2.take k) ∧ Hid (∃ q, wr = w.drewN q)) (fun i _ => m - (intOf i).toNat)
    case atStart => exact ⟨0, Nat.zero_le _, rfl, rfl, 0, rfl⟩
    case round =>
      obtain ⟨k, hk, rfl, HT, HW⟩ := hrel
      by_cases hlt : k < m
      · obtain ⟨b1, o1, rfl, _, hc1⟩ := HA.out k (by omega)
        obtain ⟨b2, o2, rfl, _, hc2⟩ := HB.out k (by omega)
        obtain ⟨q, rfl⟩ := HW.out
        have ex : l.take (k + 1) = l.take k ++ [l.getD k 0] := by rw [List.take_succ_eq_append_getElem (by omega)]; simp [List.getD, show k < l.length by omega]
        have ey : l2.take (k + 1) = l2.take k ++ [l2.getD k 0] := by rw [List.take_succ_eq_append_getElem (by omega)]; simp [List.getD, show k < l2.length by omega]
        obtain ⟨x, hx⟩ : ∃ x, x = l.getD k 0 := ⟨_, rfl⟩
        obtain ⟨y, hy⟩ : ∃ y, y = l2.getD k 0 := ⟨_, rfl⟩
        rw [← hx] at hc1 ex
        rw [← hy] at hc2 ey
        have hlt' : (k : Int) < (m : Int) := by omega
        have hk0 : (0 : Int) ≤ (k : Int) := by omega
        by_cases hxy : x = y
        · subst hxy
          have HT2 : Hid (l.take (k + 1) = l2.take (k + 1)) := by show _ = _; rw [ex, ey, HT.out]
          clear hx hy ex ey
          go_wp2_with fail
          go_quiet (fail)
          go_wp2
          go_roundw
          case rel => exact ⟨k + 1, by omega, by go_num, HT2, _, by first | rfl | rw [World.drewN_drewN]⟩
          case measure => simp [intOf]; omega
        · have hne : (x != y) = true := by simpa using hxy
          have HN : Hid (decide (l = l2) = false) := by
            show _ = _
            rw [decide_eq_false_iff_not]
            intro hc
            apply hxy
            rw [hx, hy, hc]
          clear hx hy ex ey hxy
          go_wp2_with fail
          go_quiet (fail)
          go_wp2
          go_ret
          exact ⟨by rw [HN.out]; rfl, by first | exact below_drewN (Below.refl _ _) _ | exact below_drewN (below_drewN (Below.refl _ _) _) _⟩
      · obtain ⟨q, rfl⟩ := HW.out
        have HY : Hid (decide (l = l2) = true) := by
          show _ = _
          rw [decide_eq_true_eq]
          have := HT.out
          rwa [List.take_of_length_le (by omega), List.take_of_length_le (by omega)] at this
        go_wp2
        go_ret
        exact ⟨by rw [HY.out]; rfl, below_drewN (Below.refl _ _) _⟩
  · have HN : Hid (decide (l = l2) = false) := by
      show _ = _
      rw [decide_eq_false_iff_not]
      intro hc
      apply hmn
      rw [← hl, ← hl2, hc]
    have hne : ((m : Int) != (n : Int)) = true := by rw [bne_iff_ne]; omega
    clear ha hb
    go_enter Try.func43, Try.ntmps43
    go_wp2
    go_ret
    exact ⟨by rw [HN.out]; rfl, Below.refl _ _⟩
theorem word_one (zs : List Int) (h : zs.length ≤ 1) : word zs = [] := by
  match zs, h with
  | [], _ => rfl
  | [a], _ => rfl
theorem poh_nil : pohV [] = none := by
  unfold pohV; refine if_neg ?_; intro h; cases h.2
theorem poh_long (zs : List Int) (h : 17 < zs.length) : pohV zs = none := by
  unfold pohV; refine if_neg ?_; intro hc
  have := dyck_len hc.1
  rw [len_word] at this; omega

set_option maxRecDepth 100000 in
set_option maxHeartbeats 1000000 in
theorem pohI (A : Option Addr) (n c : Nat) (zs : List Int) (w : World) (hl : zs.length = n) (ha : Rd .i64 w A zs) (hn : n ≤ 1048576) : Calls Try.prog 9 #[.slice A n c] w fun e w' => e = .returned (pohR (pohV zs)) ∧ Below w.heap.size w w' := by
  by_cases h0 : n = 0
  · subst h0
    obtain rfl : zs = [] := List.eq_nil_of_length_eq_zero hl
    rw [poh_nil]
    clear ha
    go_enter Try.func9, Try.ntmps9
    go_wp2
    go_ret2
    exact ⟨rfl, Below.refl _ _⟩
  · by_cases h17 : 17 < n
    · rw [poh_long zs (by omega)]
      have hz : ((n : Int) == 0) = false := by rw [beq_eq_false_iff_ne]; omega
      clear ha
      go_enter Try.func9, Try.ntmps9
      go_wp2
      go_ret2
      exact ⟨rfl, Below.refl _ _⟩
    · have hz : ((n : Int) == 0) = false := by rw [beq_eq_false_iff_ne]; omega
      have HA := Lib.hid ha
      have HL := Lib.hid hl
      have hlit := Buf.lit (w0 := w) (e := 5) (Below.refl _ w) [] (by decide)
      clear ha hl
      go_enter Try.func9, Try.ntmps9
      go_wp2_with fail
      go_loopw [4, 5] (fun v i wr => ∃ (j : Nat) (pre : List UInt8), j + 1 ≤ n ∧ i = .int .i64 ((j : Int) + 1) ∧ pre.length = j ∧ Hid (pre ++ word (zs.drop j) = word zs) ∧ Buf w wr 5 v ((bNum pre).map (Value.int .u8))) (fun _ i _ => n - (intOf i).toNat)
      case atStart => exact ⟨0, [], by omega, rfl, rfl, rfl, hlit⟩
      case round =>
        obtain ⟨j, pre, hj, rfl, hpl, HW, hBr⟩ := hrel
        have hxl : ((bNum pre).map (Value.int .u8)).length ≤ 16 := by rw [List.length_map, bNum_len]; omega
        by_cases hlt : j + 1 < n
        · have hd := drop_two zs j (by rw [HL.out]; exact hlt)
          have hd1 := drop_one zs (j + 1) (by rw [HL.out]; exact hlt)
          obtain ⟨b, o, rfl, _, hc1⟩ := (HA.out.keep hBr.bel) (j + 1) (by rw [HL.out]; exact hlt)
          obtain ⟨b', o', he, _, hc2⟩ := (HA.out.keep hBr.bel) j (by rw [HL.out]; omega)
          simp only [Option.some.injEq, Addr.mk.injEq, and_true] at he
          obtain ⟨rfl, rfl⟩ := he
          obtain ⟨x, hx⟩ : ∃ x, x = zs.getD (j + 1) 0 := ⟨_, rfl⟩
          obtain ⟨y, hy⟩ : ∃ y, y = zs.getD j 0 := ⟨_, rfl⟩
          rw [← hx] at hc1 hd hd1
          rw [← hy] at hc2 hd
          have hwd : word (zs.drop j) = (if y < x then 117 else 100) :: word (zs.drop (j + 1)) := by rw [hd, hd1]; rfl
          have hw := HW.out
          rw [hwd] at hw
          by_cases hyx : y < x
          · rw [if_pos hyx] at hw
            have HW2 : Hid ((pre ++ [117]) ++ word (zs.drop (j + 1)) = word zs) := by show _ = _; rw [← hw]; simp
            clear hw hwd hd hd1 hx hy HW
            go_wp2_with fail
            go_quiet (fail)
            go_wp2_with (at_builtin; refine buf_append1 elU8 rfl _ _ rfl (hBr.drewN _) rfl rfl rfl (by omega) ?_; intro v2 w2 hB2 _ _)
            go_roundw
            case rel => exact ⟨j + 1, pre ++ [117], by omega, by go_num, by simp; omega, HW2, by rw [show bNum (pre ++ [117]) = bNum pre ++ [117] by simp [bNum], List.map_append]; exact hB2⟩
            case measure => simp [intOf]; omega
          · rw [if_neg hyx] at hw
            have HW2 : Hid ((pre ++ [100]) ++ word (zs.drop (j + 1)) = word zs) := by show _ = _; rw [← hw]; simp
            clear hw hwd hd hd1 hx hy HW
            go_wp2_with fail
            go_quiet (fail)
            go_wp2_with (at_builtin; refine buf_append1 elU8 rfl _ _ rfl (hBr.drewN _) rfl rfl rfl (by omega) ?_; intro v2 w2 hB2 _ _)
            go_roundw
            case rel => exact ⟨j + 1, pre ++ [100], by omega, by go_num, by simp; omega, HW2, by rw [show bNum (pre ++ [100]) = bNum pre ++ [100] by simp [bNum], List.map_append]; exact hB2⟩
            case measure => simp [intOf]; omega
        · have hwz : pre = word zs := by
            have := HW.out
            rw [word_one (zs.drop j) (by rw [List.length_drop, HL.out]; omega), List.append_nil] at this
            exact this
          subst hwz
          have hps : (⟨⟨word zs⟩⟩ : ByteArray).size ≤ 16 := by show (word zs).toArray.size ≤ 16; simp; omega
          have HH := Lib.hid (fun w => heightsOfI ⟨⟨word zs⟩⟩ w (by omega))
          have hlist : (⟨⟨word zs⟩⟩ : ByteArray).data.toList = word zs := rfl
          rw [hlist] at HH
          have hcv := buf_string (t := 33) (d := 9) elU8.sl Try.underlying5 Try.underlying9 hBr
          rw [bNum_str] at hcv
          obtain ⟨p, hp⟩ : ∃ p : ByteArray, p = ⟨⟨word zs⟩⟩ := ⟨_, rfl⟩
          have HP := Lib.hid hp
          rw [← hp] at hcv HH
          have hhl : (htsV (word zs)).length ≤ 17 := by
            unfold htsV
            split
            · rw [len_hl]; omega
            · simp
          have hn' : n ≤ 1048576 := hn
          clear hps hlist hp HW
          have hm : (htsV (word zs)).length ≤ 1073741824 := by omega
          by_cases hE : htsV (word zs) = zs
          · have hv : pohV zs = some (word zs) := by
              unfold pohV
              refine if_pos ?_
              cases hd : dyck (word zs) with
              | true => exact ⟨rfl, by rw [htsV_yes hd] at hE; exact hE⟩
              | false => rw [htsV_no hd] at hE; have := HL.out; rw [← hE] at this; simp at this; omega
            have HV : Hid (pohR (pohV zs) = .tuple #[.string p, .bool true]) := by show _ = _; rw [hv, HP.out]; rfl
            have HE := Lib.hid (decide_eq_true hE)
            clear hv hE
            go_wp2_with fail
            refine (HH.out _).mono ?_
            rintro e w2 ⟨A2, c2, rfl, hB2⟩
            go_wp2_with fail
            refine (equalI A2 A _ n c2 c (htsV (word zs)) zs _ rfl HL.out hB2.rd (HA.out.keep (below_then hBr.bel hB2.bel)) hm (by omega)).mono ?_
            rintro e w3 ⟨rfl, hb3⟩
            rw [HE.out]
            have hcv2 := buf_string (t := 33) (d := 9) elU8.sl Try.underlying5 Try.underlying9 ((hBr.after hB2.bel).after hb3)
            rw [bNum_str, ← HP.out] at hcv2
            go_wp2_with fail
            go_ret2
            exact ⟨by rw [HV.out]; rfl, below_then hBr.bel (below_then hB2.bel hb3)⟩
          · have hv : pohV zs = none := by
              unfold pohV
              refine if_neg ?_
              intro hc
              exact hE (by rw [htsV_yes hc.1]; exact hc.2)
            have HV := Lib.hid hv
            have HE := Lib.hid (decide_eq_false hE)
            clear hv hE
            go_wp2_with fail
            refine (HH.out _).mono ?_
            rintro e w2 ⟨A2, c2, rfl, hB2⟩
            go_wp2_with fail
            refine (equalI A2 A _ n c2 c (htsV (word zs)) zs _ rfl HL.out hB2.rd (HA.out.keep (below_then hBr.bel hB2.bel)) hm (by omega)).mono ?_
            rintro e w3 ⟨rfl, hb3⟩
            rw [HE.out]
            go_wp2_with fail
            go_ret2
            exact ⟨by rw [HV.out]; rfl, below_then hBr.bel (below_then hB2.bel hb3)⟩
theorem poh_bad (zs : List Int) (h : okS zs = false) : pohV zs = none := by
  rw [poh_spec, if_neg]; rw [h]; simp
theorem poh_head (zs : List Int) (h : zs.getD 0 0 ≠ 0) : pohV zs = none := by
  rw [poh_spec, if_neg]
  intro hc
  apply h
  cases zs with
  | nil => rfl
  | cons a r => have := hc.2.1; simpa using this
theorem poh_notDyck (zs : List Int) (h : dyck (word zs) = false) : pohV zs = none := by
  rw [poh_spec, if_neg]; rw [h]; simp
theorem poh_good (zs : List Int) (h0 : zs ≠ []) (h1 : okS zs = true) (h2 : zs.getD 0 0 = 0) (h3 : dyck (word zs) = true) : pohV zs = some (word zs) := by
  rw [poh_spec, if_pos]
  refine ⟨h1, ?_, h3⟩
  cases zs with
  | nil => exact absurd rfl h0
  | cons a r => simpa using h2
theorem okS_one (zs : List Int) (h : zs.length ≤ 1) : okS zs = true := by
  match zs, h with
  | [], _ => rfl
  | [a], _ => rfl
theorem mk_snoc (pre : List UInt8) (c : UInt8) : (⟨⟨pre⟩⟩ : ByteArray) ++ ⟨#[c]⟩ = ⟨⟨pre ++ [c]⟩⟩ := by
  apply ByteArray.ext
  simp [ByteArray.data_append]

set_option maxRecDepth 100000 in
set_option maxHeartbeats 1000000 in
theorem pohS (A : Option Addr) (n c : Nat) (zs : List Int) (w : World) (hl : zs.length = n) (ha : Rd .i64 w A zs) (hn : n ≤ 1048576) : Calls Try.prog 7 #[.slice A n c] w fun e w' => e = .returned (pohR (pohV zs)) ∧ Below w.heap.size w w' := by
  by_cases h0 : n = 0
  · subst h0
    obtain rfl : zs = [] := List.eq_nil_of_length_eq_zero hl
    rw [poh_nil]
    clear ha
    go_enter Try.func7, Try.ntmps7
    go_wp2_with fail
    refine wp_loop_rounds 1 ?_
    rw [rounds_succ]
    go_wp2
    go_ret2
    exact ⟨rfl, Below.refl _ _⟩
  · have hz : ((n : Int) == 0) = false := by rw [beq_eq_false_iff_ne]; omega
    have HA := Lib.hid ha
    have HL := Lib.hid hl
    clear ha hl
    go_enter Try.func7, Try.ntmps7
    go_wp2_with fail
    go_loopw [4, 5] (fun v i wr => ∃ (j : Nat) (pre : List UInt8), j + 1 ≤ n ∧ i = .int .i64 ((j : Int) + 1) ∧ pre.length = j ∧ v = .string ⟨⟨pre⟩⟩ ∧ Hid (pre ++ word (zs.drop j) = word zs) ∧ Hid (okS (zs.drop j) = okS zs) ∧ Hid (∃ q, wr = w.drewN q)) (fun _ i _ => n - (intOf i).toNat)
    case atStart => exact ⟨0, [], by omega, rfl, rfl, rfl, rfl, rfl, 0, rfl⟩
    case round =>
      obtain ⟨j, pre, hj, rfl, hpl, rfl, HW, HO, HQ⟩ := hrel
      obtain ⟨q, rfl⟩ := HQ.out
      have hps : (⟨⟨pre⟩⟩ : ByteArray).size = j := by show pre.toArray.size = j; simp [hpl]
      obtain ⟨o, ho⟩ : ∃ o : ByteArray, o = ⟨⟨pre⟩⟩ := ⟨_, rfl⟩
      rw [← ho] at hps ⊢
      have HP := Lib.hid ho
      have hps' : o.size ≤ 1048576 := by omega
      clear ho
      by_cases hlt : j + 1 < n
      · have hd := drop_two zs j (by rw [HL.out]; exact hlt)
        have hd1 := drop_one zs (j + 1) (by rw [HL.out]; exact hlt)
        obtain ⟨b, o1, rfl, _, hc1⟩ := HA.out (j + 1) (by rw [HL.out]; exact hlt)
        obtain ⟨b', o', he, _, hc2⟩ := HA.out j (by rw [HL.out]; omega)
        simp only [Option.some.injEq, Addr.mk.injEq, and_true] at he
        obtain ⟨rfl, rfl⟩ := he
        obtain ⟨x, hx⟩ : ∃ x, x = zs.getD (j + 1) 0 := ⟨_, rfl⟩
        obtain ⟨y, hy⟩ : ∃ y, y = zs.getD j 0 := ⟨_, rfl⟩
        rw [← hx] at hc1 hd hd1
        rw [← hy] at hc2 hd
        have hwd : word (zs.drop j) = (if y < x then 117 else 100) :: word (zs.drop (j + 1)) := by rw [hd, hd1]; rfl
        have hod : okS (zs.drop j) = ((decide (0 ≤ x ∧ x ≤ 8) && (decide (0 ≤ y ∧ y ≤ 8) && decide (x - y = 1 ∨ x - y = -1))) && okS (zs.drop (j + 1))) := by rw [hd, hd1]; rfl
        have hw := HW.out
        have hok := HO.out
        rw [hwd] at hw
        rw [hod] at hok
        have HPL := Lib.hid hpl
        clear hwd hod hd hd1 hx hy HW HO hpl
        by_cases hx8 : 0 ≤ x ∧ x ≤ 8
        · by_cases hy8 : 0 ≤ y ∧ y ≤ 8
          · have i1 := inR_yes hx8.1 hx8.2
            have i2 := inR_yes hy8.1 hy8.2
            rw [decide_eq_true hx8, decide_eq_true hy8, Bool.true_and, Bool.true_and] at hok
            obtain ⟨x0, x8⟩ := hx8
            obtain ⟨y0, y8⟩ := hy8
            have hlt' : (j : Int) + 1 < (n : Int) := by omega
            by_cases hu : x - y = 1
            · rw [decide_eq_true (.inl hu), Bool.true_and] at hok
              rw [if_pos (by omega)] at hw
              have HW2 : Hid ((pre ++ [117]) ++ word (zs.drop (j + 1)) = word zs) := by show _ = _; rw [← hw]; simp
              have HO2 := Lib.hid hok
              have HU := Lib.hid hu
              have e1 : (x - y == 1) = true := by simpa using hu
              clear hw hok hu
              go_wp2_with (go_at_call 42; refine (inC _ _ _ _).mono ?_; rintro e w' ⟨rfl, rfl⟩)
              go_quiet (fail)
              go_wp2
              go_roundw
              case rel => exact ⟨j + 1, pre ++ [117], by omega, by go_num, by simp [HPL.out], by rw [HP.out, mk_snoc], HW2, HO2, _, by first | rfl | rw [World.drewN_drewN]⟩
              case measure => simp [intOf]; omega
            · by_cases hdn : x - y = -1
              · rw [decide_eq_true (.inr hdn), Bool.true_and] at hok
                rw [if_neg (by omega)] at hw
                have HW2 : Hid ((pre ++ [100]) ++ word (zs.drop (j + 1)) = word zs) := by show _ = _; rw [← hw]; simp
                have HO2 := Lib.hid hok
                have e1 : (x - y == 1) = false := by simpa using hu
                have e2 : (x - y == -1) = true := by simpa using hdn
                clear hw hok hu hdn
                go_wp2_with (go_at_call 42; refine (inC _ _ _ _).mono ?_; rintro e w' ⟨rfl, rfl⟩)
                go_quiet (fail)
                go_wp2
                go_roundw
                case rel => exact ⟨j + 1, pre ++ [100], by omega, by go_num, by simp [HPL.out], by rw [HP.out, mk_snoc], HW2, HO2, _, by first | rfl | rw [World.drewN_drewN]⟩
                case measure => simp [intOf]; omega
              · have HV := Lib.hid (poh_bad zs (by rw [← hok, decide_eq_false (by omega)]; rfl))
                have e1 : (x - y == 1) = false := by simpa using hu
                have e2 : (x - y == -1) = false := by simpa using hdn
                clear hw hok hu hdn
                go_wp2_with (go_at_call 42; refine (inC _ _ _ _).mono ?_; rintro e w' ⟨rfl, rfl⟩)
                go_quiet (fail)
                go_wp2
                go_ret2
                exact ⟨by rw [HV.out]; rfl, by first | exact below_drewN (Below.refl _ _) _ | exact below_drewN (below_drewN (Below.refl _ _) _) _⟩
          · have i1 := inR_yes hx8.1 hx8.2
            have i2 := inR_no hy8
            have HV := Lib.hid (poh_bad zs (by rw [← hok, decide_eq_false hy8]; simp))
            clear hok hw hx8 hy8
            go_wp2_with (go_at_call 42; refine (inC _ _ _ _).mono ?_; rintro e w' ⟨rfl, rfl⟩)
            go_ret2
            exact ⟨by rw [HV.out]; rfl, below_drewN (Below.refl _ _) _⟩
        · have i1 := inR_no hx8
          have HV := Lib.hid (poh_bad zs (by rw [← hok, decide_eq_false hx8]; simp))
          clear hok hw hx8
          go_wp2_with (go_at_call 42; refine (inC _ _ _ _).mono ?_; rintro e w' ⟨rfl, rfl⟩)
          go_ret2
          exact ⟨by rw [HV.out]; rfl, below_drewN (Below.refl _ _) _⟩
      · have hwz : pre = word zs := by
          have := HW.out
          rw [word_one (zs.drop j) (by rw [List.length_drop, HL.out]; omega), List.append_nil] at this
          exact this
        have hokz : okS zs = true := by rw [← HO.out]; exact okS_one _ (by rw [List.length_drop, HL.out]; omega)
        obtain ⟨b, o1, rfl, _, hc1⟩ := HA.out 0 (by rw [HL.out]; omega)
        obtain ⟨x, hx⟩ : ∃ x, x = zs.getD 0 0 := ⟨_, rfl⟩
        rw [← hx, Nat.add_zero] at hc1
        have hbl : dyck o.data.toList = dyck (word zs) := by rw [HP.out, hwz]
        by_cases hx0 : x = 0
        · have ex : (x != 0) = false := by simpa using hx0
          have hn0 : 0 < n := by omega
          cases hdk : dyck (word zs) with
          | true =>
            have HV := Lib.hid (poh_good zs (by intro h; rw [h] at HL; have := HL.out; simp at this; omega) hokz (by rw [← hx, hx0]) hdk)
            have HD := Lib.hid (fun w => isDyckS o w hps')
            rw [hbl, hdk] at HD
            have HO' : Hid (pohR (some (word zs)) = .tuple #[.string o, .bool true]) := by show _ = _; rw [HP.out, hwz]; rfl
            clear hx hokz hwz hbl hdk hx0 HW HO
            go_wp2_with (go_at_call 21; refine (HD.out _).mono ?_; rintro e w' ⟨rfl, rfl⟩)
            go_ret2
            exact ⟨by rw [HV.out, HO'.out]; rfl, below_drewN (Below.refl _ _) _⟩
          | false =>
            have HV := Lib.hid (poh_notDyck zs hdk)
            have HD := Lib.hid (fun w => isDyckS o w hps')
            rw [hbl, hdk] at HD
            clear hx hokz hwz hbl hdk hx0 HW HO
            go_wp2_with (go_at_call 21; refine (HD.out _).mono ?_; rintro e w' ⟨rfl, rfl⟩)
            go_ret2
            exact ⟨by rw [HV.out]; rfl, below_drewN (Below.refl _ _) _⟩
        · have ex : (x != 0) = true := by simpa using hx0
          have hn0 : 0 < n := by omega
          have HV := Lib.hid (poh_head zs (by rw [← hx]; exact hx0))
          clear hx hokz hwz hbl hx0 HW HO
          go_wp2_with fail
          go_ret2
          exact ⟨by rw [HV.out]; rfl, below_drewN (Below.refl _ _) _⟩
theorem poh_shape (zs : List Int) : ∃ p b, pohR (pohV zs) = .tuple #[.string p, .bool b] := by
  cases pohV zs with
  | none => exact ⟨_, _, rfl⟩
  | some l => exact ⟨_, _, rfl⟩
set_option maxRecDepth 100000 in
set_option maxHeartbeats 1000000 in
theorem law_FnExactPathOfHeights (A : Option Addr) (n c : Nat) (zs : List Int) (w : World) (h : Row .i64 w A n zs) : Calls Try.prog 3 #[.slice A n c] w fun e w' => e = .returned (.bool true) ∧ Below w.heap.size w w' := by
  obtain ⟨hl, hm, _, hr⟩ := h
  unfold maxLen at hm
  subst hl
  by_cases hb : zs.length ≤ 1048576
  · have HR := Lib.hid hr
    have HT := Lib.hid (fun w' (hbw : Below w.heap.size w w') => toIntS A zs.length c zs w' rfl (hr.keep hbw) (by omega))
    have HS := Lib.hid (fun A c w (hr : Rd .i64 w A zs) => pohS A zs.length c zs w rfl hr hb)
    have HI := Lib.hid (fun A c w (hr : Rd .i64 w A zs) => pohI A zs.length c zs w rfl hr hb)
    obtain ⟨p, b, hv⟩ := poh_shape zs
    rw [hv] at HS HI
    clear hv hr
    go_enter Try.func3, Try.ntmps3
    go_wp2_with fail
    refine (HT.out _ (Below.refl _ _)).mono ?_
    rintro e w1 ⟨A1, c1, rfl, hB1⟩
    go_wp2_with fail
    refine (HS.out _ _ _ hB1.rd).mono ?_
    rintro e w2 ⟨rfl, hb2⟩
    have L2 := Lib.hid (below_then hB1.bel hb2)
    clear hB1 hb2
    go_wp2_with fail
    refine (HT.out _ L2.out).mono ?_
    rintro e w3 ⟨A3, c3, rfl, hB3⟩
    have G3 := Lib.hid hB3
    have L3 := Lib.hid (below_then L2.out hB3.bel)
    clear hB3
    go_wp2_with fail
    refine (HI.out _ _ _ G3.out.rd).mono ?_
    rintro e w4 ⟨rfl, hb4⟩
    have L4 := Lib.hid (below_then L3.out hb4)
    have R4 := Lib.hid (G3.out.rd.keep hb4)
    clear hb4
    go_wp2_with fail
    refine (HT.out _ L4.out).mono ?_
    rintro e w5 ⟨A5, c5, rfl, hB5⟩
    have L5 := Lib.hid (below_then L4.out hB5.bel)
    have G5 := Lib.hid hB5
    clear hB5
    go_wp2_with fail
    refine (eqIntS A3 A5 c3 c5 zs _ (R4.out.keep G5.out.bel) G5.out.rd (by omega)).mono ?_
    rintro e w6 ⟨rfl, hb6⟩
    go_wp2_with fail
    go_ret
    exact ⟨rfl, below_then L5.out hb6⟩
  · clear hr
    go_enter Try.func3, Try.ntmps3
    go_wp2
    go_ret
    exact ⟨rfl, Below.refl _ _⟩
end Go.Proofs.Ytmjnafpjfodbdaa
