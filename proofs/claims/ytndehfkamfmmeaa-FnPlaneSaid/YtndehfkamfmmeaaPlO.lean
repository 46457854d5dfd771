/-
  PlaneOf of both packages and its law, walked.
-/
import Derived.Test.YtndehfkamfmmeaaOps
import Derived.Test.YtndehfkamfmmeaaHts
import Derived.Test.YtndehfkamfmmeaaPlP
import Derived.Test.YtndehfkamfmmeaaPart
import Derived.Test.YtndehfkamfmmeaaIntArg
namespace Go.Proofs.Ytndehfkamfmmeaa
open Go.RowKit
def planeV (l : List UInt8) : List Int := if dyck l = true then planeOf l else []
theorem planeV_yes {l : List UInt8} (h : dyck l = true) : planeV l = planeOf l := if_pos h
theorem planeV_no {l : List UInt8} (h : dyck l = false) : planeV l = [] := if_neg (by rw [h]; simp)
theorem planeV_len (l : List UInt8) : (planeV l).length ≤ 9 := by
  cases h : dyck l with
  | false => rw [planeV_no h]; simp
  | true => rw [planeV_yes h]; have := len_planeOf (dyck_path h); have := dyck_len h; omega
/-- What a function that hands back a slice of numbers of its own and a truth hands back. -/
def RetIB (l : List Int) (b : Bool) (w : World) (e : Ending) (w' : World) : Prop := ∃ A c, e = .returned (.tuple #[.slice A l.length c, .bool b]) ∧ Buf w w' 3 (.slice A l.length c) (l.map (Value.int .i64))
theorem RetIB.of {l : List Int} {b : Bool} {w w' : World} {v : Value} (h : Buf w w' 3 v (l.map (Value.int .i64))) : RetIB l b w (.returned (.tuple #[v, .bool b])) w' := by
  obtain ⟨A, c, rfl, _⟩ := h.value
  exact ⟨A, c, rfl, h⟩
theorem chain_more {p : List Int} {s : List Nat} (h : Chain p s) (x : Int) (ht : top s < (p.length : Int)) : Chain (p ++ [x]) s := by
  induction s with
  | nil => trivial
  | cons a r ih =>
    have h2 : top r < (a : Int) := h.2.1
    rw [top_cons] at ht
    refine ⟨?_, h2, ih h.2.2 (by omega)⟩
    rw [← h.1]
    simp [List.getD, List.getElem?_append_left (show a < p.length by omega)]
theorem vi_ints (s : List Nat) : vi s = (s.map fun (n : Nat) => (n : Int)).map (Value.int .i64) := by simp [vi]

set_option maxRecDepth 100000 in
set_option maxHeartbeats 1000000 in
theorem planeOfI (s : ByteArray) (w : World) (hs : s.size ≤ 1048576) : Calls Try.prog 29 #[.string s] w (RetIB (planeV s.data.toList) (dyck s.data.toList) w) := by
  cases hd : dyck s.data.toList with
  | false =>
    rw [planeV_no hd]
    go_enter Try.func29, Try.ntmps29
    go_wp2_with (go_at_call 65; refine (isDyckI s _ hs).mono ?_; rintro e w1 ⟨rfl, hb⟩)
    go_ret2
    exact RetIB.of ((lit_nil _).from_ hb)
  | true =>
    have HV := Lib.hid (planeV_yes hd)
    have hs16 : s.size ≤ 16 := by have := dyck_len hd; simpa using this
    have HP := Lib.hid (dyck_path hd)
    have HD := Lib.hid (fun w => isDyckI s w hs)
    rw [hd] at HD
    clear hd
    go_enter Try.func29, Try.ntmps29
    go_wp2_with (go_at_call 65; refine (HD.out _).mono ?_; rintro e w1 ⟨rfl, hb⟩)
    have hp0 := Buf.lit (w0 := w) (e := 3) hb [.int .i64 (-1)] (by decide)
    have hp1 := hp0.alloc (.cells #[.int .i64 0] 3)
    have hs1 := Buf.lit (w0 := w) (e := 3) hp0.bel [.int .i64 0] (by decide)
    clear hp0
    go_loopw [4, 5, 6] (fun pv sv ix wr => ∃ (k i a : Nat) (r : List Nat) (pre : List Int), k ≤ s.size ∧ ix = .int .i64 (k : Int) ∧ pre.length = i ∧ r.length ≤ k ∧ 1 ≤ i ∧ i ≤ k + 1 ∧ pv.ownBlock ≠ sv.ownBlock ∧ Hid (hgo r.length (s.data.toList.drop k) = some 0) ∧ Hid (pre ++ plOf i (a :: r) (s.data.toList.drop k) = planeOf s.data.toList) ∧ Buf w wr 3 pv (pre.map (Value.int .i64)) ∧ Buf w wr 3 sv (vi (r.reverse ++ [a]))) (fun _ _ ix _ => s.size - (intOf ix).toNat)
    case atStart => exact ⟨0, 1, 0, [], [-1], by omega, rfl, rfl, by simp, by omega, by omega, by simp [Value.ownBlock], HP.out, rfl, hp1, by simpa [vi] using hs1⟩
    case round =>
      obtain ⟨k, i, a, r, pre, hk, rfl, hpl, hrl, hi1, hik, hne, HG, HE, hBp, hBs⟩ := hrel
      by_cases hlt : k < s.size
      · have hdc := drop_cons s k hlt
        have hor := hgo_letters HG.out s[k] (by rw [hdc]; simp)
        obtain ⟨q, N, cap, rfl, hN⟩ := hBs.form' (by rw [vi_len]; simp)
        rw [vi_len, List.length_append, List.length_reverse, List.length_singleton] at hN
        subst hN
        by_cases h1 : s[k] = 117
        · have e1 := byte_ne (c := s[k]) 100 100 (by rw [h1]; decide)
          have hcell : wr.cell? ⟨q, r.length, none⟩ = some (.int .i64 (a : Int)) := by
            rw [hBs.cellAt r.length (by omega)]; exact vi_get _ _ _ (by simp)
          have HG2 : Hid (hgo (r.length + 1) (s.data.toList.drop (k + 1)) = some 0) := by have := HG.out; rw [hdc, h1, hgo_u] at this; exact this
          have HE2 : Hid ((pre ++ [(a : Int)]) ++ plOf (i + 1) (i :: a :: r) (s.data.toList.drop (k + 1)) = planeOf s.data.toList) := by
            have := HE.out; rw [hdc, h1] at this; simp only [plOf, if_pos, top_cons] at this; show _ = _; rw [← this]; simp
          have hxl : (pre.map (Value.int .i64)).length ≤ 17 := by simp; omega
          have hsl : (vi (r.reverse ++ [a])).length ≤ 17 := by rw [vi_len]; simp; omega
          have HPL := Lib.hid hpl
          have hcap := hBs.cap
          clear hdc h1 hor HG HE hpl
          have hql := hBs.lt.2
          have hip : pre.length + 1 ≤ 18 := by have := HPL.out; omega
          go_wp2_with (first | (at_builtin; refine buf_append1 elInt rfl (.tmp 28) (.tmp 35) rfl hBp rfl rfl rfl (by omega) ?_; intro v2 w2 hB2 hown hgrow; have hBs2 := hBs.kept_ hgrow (.inr fun hc => hne hc.symm) (fun y hy => (hBp.own.lt y hy).1); obtain ⟨g2, N2, cap2, rfl, hN2⟩ := hB2.form' (by simp); rw [List.length_append, List.length_map, List.length_singleton] at hN2; subst hN2) | (at_builtin; refine buf_append1 elInt rfl (.tmp 37) (.tmp 41) rfl hBs2 rfl rfl rfl (by omega) ?_; intro v3 w3 hB3 hown3 hgrow3))
          have hne3 : (Value.slice (some ⟨g2, 0, none⟩) (pre.length + 1) cap2).ownBlock ≠ v3.ownBlock := by
            have h1 : (Value.slice (some ⟨q, 0, none⟩) (r.length + 1) cap).ownBlock = some q := rfl
            have h2 : (Value.slice (some ⟨g2, 0, none⟩) (pre.length + 1) cap2).ownBlock = some g2 := rfl
            have hgl := hB2.lt.2
            rw [h1] at hne hown3
            rw [h2] at hown ⊢
            rcases hown3 with hc | hc
            · rw [hc]
              rcases hown with hd | hd
              · rw [hd]; exact hne
              · rw [hd]; intro he; injection he with he; omega
            · rw [hc]; intro he; injection he with he; omega
          have hB4 := hB2.kept_ hgrow3 (.inr (by
            have h1 : (Value.slice (some ⟨q, 0, none⟩) (r.length + 1) cap).ownBlock = some q := rfl
            have h2 : (Value.slice (some ⟨g2, 0, none⟩) (pre.length + 1) cap2).ownBlock = some g2 := rfl
            rw [h1] at hne ⊢
            rw [h2] at hown ⊢
            rcases hown with hd | hd
            · rw [hd]; exact hne
            · rw [hd]; intro he; injection he with he; omega)) (fun y hy => (hBs2.own.lt y hy).1)
          have HB3 : Hid (Buf w w3 3 v3 (vi ((a :: r).reverse ++ [i]))) := by
            show Buf w w3 3 v3 _
            rw [vi_app, List.reverse_cons, ← HPL.out]; exact hB3
          have HB4 : Hid (Buf w w3 3 (Value.slice (some ⟨g2, 0, none⟩) (pre.length + 1) cap2) ((pre ++ [(a : Int)]).map (Value.int .i64))) := by
            show Buf _ _ _ _ _
            rw [List.map_append]; exact hB4
          clear hB3 hB4 hB2 hBs2 hgrow hgrow3 hown hown3 hBp hBs hne
          go_roundw
          case rel => exact ⟨k + 1, i + 1, i, a :: r, _, by omega, by go_num, by simp [HPL.out], by simp; omega, by omega, by omega, hne3, by rw [List.length_cons]; exact HG2, HE2, HB4.out, HB3.out⟩
          case measure => simp [intOf]; omega
        · have h2 : s[k] = 100 := hor.resolve_left h1
          have e1 := byte_eq 100 100 h2
          cases r with
          | nil => have := HG.out; rw [hdc, h2] at this; cases this
          | cons b r =>
            have HG2 : Hid (hgo r.length (s.data.toList.drop (k + 1)) = some 0) := by have := HG.out; rw [hdc, h2, List.length_cons, hgo_d] at this; exact this
            have HE2 : Hid (pre ++ plOf i (b :: r) (s.data.toList.drop (k + 1)) = planeOf s.data.toList) := by
              have := HE.out; rw [hdc, h2] at this; simp only [plOf, if_neg (show ¬ (100 : UInt8) = 117 by decide), List.tail_cons] at this; exact this
            have hS := hBs.shrink (r.length + 1) (by simp)
            rw [← vi_take] at hS
            have e : ((b :: r).reverse ++ [a]).take (r.length + 1) = r.reverse ++ [b] := by
              rw [List.take_append_of_le_length (by simp), List.take_of_length_le (by simp)]; simp
            rw [e] at hS
            have HS := Lib.hid hS
            have hcap := hBs.cap
            rw [List.length_cons] at hrl hcap hne ⊢
            clear hdc h1 h2 hor HG HE hS e hBs
            go_wp2
            go_roundw
            case rel => exact ⟨k + 1, i, b, r, pre, by omega, by go_num, hpl, by omega, by omega, by omega, hne, HG2, HE2, hBp, HS.out⟩
            case measure => simp [intOf]; omega
      · obtain rfl : k = s.size := by omega
        have hF : pre = planeV s.data.toList := by
          have := HE.out
          rw [drop_end s s.size (by omega)] at this
          rw [HV.out, ← this]; simp [plOf]
        rw [hF] at hBp
        clear hF HG HE hBs hne
        go_wp2
        go_ret2
        exact RetIB.of hBp

set_option maxRecDepth 100000 in
set_option maxHeartbeats 1000000 in
theorem planeOfS (s : ByteArray) (w : World) (hs : s.size ≤ 1048576) : Calls Try.prog 28 #[.string s] w (RetIB (planeV s.data.toList) (dyck s.data.toList) w) := by
  cases hd : dyck s.data.toList with
  | false =>
    rw [planeV_no hd]
    have hp0 := Buf.lit (w0 := w) (e := 3) (Below.refl _ w) [.int .i64 (-1)] (by decide)
    have HD := Lib.hid (fun w => isDyckS s w hs)
    rw [hd] at HD
    clear hd
    go_enter Try.func28, Try.ntmps28
    go_wp2_with fail
    refine wp_loop_rounds 1 ?_
    rw [rounds_succ]
    go_wp2_with (go_at_call 64; refine (HD.out _).mono ?_; rintro e w1 ⟨rfl, rfl⟩)
    all_goals
      go_ret2
      refine RetIB.of (v := .slice (some ⟨w.heap.size + 1, 0, none⟩) 0 0) ?_
      simpa using (lit_nil _).from_ hp0.bel
  | true =>
    have HV := Lib.hid (planeV_yes hd)
    have hs16 : s.size ≤ 16 := by have := dyck_len hd; simpa using this
    have HP := Lib.hid (dyck_path hd)
    have HD := Lib.hid (fun w => isDyckS s w hs)
    rw [hd] at HD
    clear hd
    have hp0 := Buf.lit (w0 := w) (e := 3) (Below.refl _ w) [.int .i64 (-1)] (by decide)
    go_enter Try.func28, Try.ntmps28
    go_wp2_with fail
    go_loopw [4, 5, 6] (fun pv av ix wr => ∃ (k i a : Nat) (r : List Nat) (pre : List Int), k ≤ s.size ∧ ix = .int .i64 (k : Int) ∧ av = .int .i64 (a : Int) ∧ a < i ∧ pre.length = i ∧ i ≤ k + 1 ∧ Hid (Chain pre (a :: r)) ∧ Hid (hgo r.length (s.data.toList.drop k) = some 0) ∧ Hid (pre ++ plOf i (a :: r) (s.data.toList.drop k) = planeOf s.data.toList) ∧ Buf w wr 3 pv (pre.map (Value.int .i64))) (fun _ _ ix _ => s.size - (intOf ix).toNat)
    case atStart => exact ⟨0, 1, 0, [], [-1], by omega, rfl, rfl, by omega, rfl, by omega, ⟨rfl, by simp [top], trivial⟩, HP.out, rfl, hp0⟩
    case round =>
      obtain ⟨k, i, a, r, pre, hk, rfl, rfl, hai, hpl, hik, HC, HG, HE, hBp⟩ := hrel
      by_cases hlt : k < s.size
      · have hdc := drop_cons s k hlt
        have hor := hgo_letters HG.out s[k] (by rw [hdc]; simp)
        have hlt' : (k : Int) < (s.size : Int) := by omega
        have hxl : (pre.map (Value.int .i64)).length ≤ 17 := by simp; omega
        by_cases h1 : s[k] = 117
        · have e1 := byte_eq 117 117 h1
          have HG2 : Hid (hgo (r.length + 1) (s.data.toList.drop (k + 1)) = some 0) := by have := HG.out; rw [hdc, h1, hgo_u] at this; exact this
          have HE2 : Hid ((pre ++ [(a : Int)]) ++ plOf (i + 1) (i :: a :: r) (s.data.toList.drop (k + 1)) = planeOf s.data.toList) := by
            have := HE.out; rw [hdc, h1] at this; simp only [plOf, if_pos, top_cons] at this; show _ = _; rw [← this]; simp
          have HC2 : Hid (Chain (pre ++ [(a : Int)]) (i :: a :: r)) := by
            refine ⟨?_, by rw [top_cons]; omega, chain_more HC.out _ (by rw [top_cons]; omega)⟩
            rw [top_cons, ← hpl]; simp [List.getD]
          have HPL := Lib.hid hpl
          have hip : pre.length + 1 ≤ 18 := by omega
          have hpl1 : (i : Int) = (pre.length : Int) := by omega
          clear hdc h1 hor HG HE hpl HC hpl1
          go_wp2_with (first | (go_at_call 64; refine (HD.out _).mono ?_; rintro e w1 ⟨rfl, rfl⟩) | (at_builtin; refine buf_append1 elInt rfl _ _ rfl hBp rfl rfl rfl (by omega) ?_; intro v2 w2 hB2 hown hgrow; obtain ⟨g2, N2, cap2, rfl, hN2⟩ := hB2.form' (by simp); rw [List.length_append, List.length_map, List.length_singleton] at hN2; subst hN2))
          have HB2 : Hid (Buf w w2 3 (Value.slice (some ⟨g2, 0, none⟩) (pre.length + 1) cap2) ((pre ++ [(a : Int)]).map (Value.int .i64))) := by
            show Buf _ _ _ _ _
            rw [List.map_append]; exact hB2
          clear hB2 hown hgrow hBp
          go_roundw
          case rel => exact ⟨k + 1, i + 1, i, a :: r, _, by omega, by go_num, by rw [HPL.out], by omega, by simp [HPL.out], by omega, HC2, by rw [List.length_cons]; exact HG2, HE2, HB2.out⟩
          case measure => simp [intOf]; omega
        · have h2 : s[k] = 100 := hor.resolve_left h1
          have e1 := byte_ne 117 117 h1
          cases r with
          | nil => have := HG.out; rw [hdc, h2] at this; cases this
          | cons b r =>
            have HG2 : Hid (hgo r.length (s.data.toList.drop (k + 1)) = some 0) := by have := HG.out; rw [hdc, h2, List.length_cons, hgo_d] at this; exact this
            have HE2 : Hid (pre ++ plOf i (b :: r) (s.data.toList.drop (k + 1)) = planeOf s.data.toList) := by
              have := HE.out; rw [hdc, h2] at this; simp only [plOf, if_neg (show ¬ (100 : UInt8) = 117 by decide), List.tail_cons] at this; exact this
            have HC2 := Lib.hid HC.out.2.2
            have hba : (b : Int) < (a : Int) := HC.out.2.1
            have hpa : pre.getD a 0 = (b : Int) := HC.out.1
            obtain ⟨g, N, cap, rfl, hN⟩ := hBp.form' (by simp; omega)
            rw [List.length_map, hpl] at hN
            have HN := Lib.hid hN
            have hNi : i ≤ N := by omega
            have hcell : wr.cell? ⟨g, a, none⟩ = some (.int .i64 (b : Int)) := by
              rw [hBp.cellAt a (by omega), ← hpa]
              simp [List.getD, show a < pre.length by omega]
            clear hdc h1 h2 hor HG HE HC hpa hN
            go_wp2_with (go_at_call 64; refine (HD.out _).mono ?_; rintro e w1 ⟨rfl, rfl⟩)
            go_roundw
            case rel => exact ⟨k + 1, i, b, r, pre, by omega, by go_num, rfl, by omega, hpl, by omega, HC2, HG2, HE2, hBp⟩
            case measure => simp [intOf]; omega
      · obtain rfl : k = s.size := by omega
        have hF : pre = planeV s.data.toList := by
          have := HE.out
          rw [drop_end s s.size (by omega)] at this
          rw [HV.out, ← this]; simp [plOf]
        rw [hF] at hBp
        clear hF HG HE HC hpl
        go_wp2_with (go_at_call 64; refine (HD.out _).mono ?_; rintro e w1 ⟨rfl, rfl⟩)
        go_ret2
        exact RetIB.of hBp
set_option maxRecDepth 100000 in
set_option maxHeartbeats 1000000 in
theorem law_FnExactPlaneOf (s : ByteArray) (w : World) (hs : s.size ≤ maxLen) : Calls Try.prog 8 #[.string s] w fun e w' => e = .returned (.bool true) ∧ Below w.heap.size w w' := by
  unfold maxLen at hs
  by_cases hb : s.size ≤ 1048576
  · have HS := Lib.hid (fun w => planeOfS s w hb)
    have HI := Lib.hid (fun w => planeOfI s w hb)
    have hn : (planeV s.data.toList).length ≤ 1073741824 := (by have := planeV_len s.data.toList; omega)
    obtain ⟨bb, hbb⟩ : ∃ bb, bb = dyck s.data.toList := ⟨_, rfl⟩
    rw [← hbb] at HS HI
    clear hbb
    obtain ⟨l, hl⟩ : ∃ l, l = planeV s.data.toList := ⟨_, rfl⟩
    rw [← hl] at HS HI hn
    clear hl
    go_enter Try.func8, Try.ntmps8
    go_wp2_with fail
    refine (HS.out _).mono ?_
    rintro e w1 ⟨A0, c0, rfl, hB0⟩
    go_wp2_with fail
    refine (HI.out _).mono ?_
    rintro e w2 ⟨A1, c1, rfl, hB1⟩
    have R0 := Lib.hid hB0.rd
    have G1 := Lib.hid hB1
    have b1 := Lib.hid hB0.bel
    clear hB0 hB1
    go_wp2_with fail
    refine (eqIntS A1 A0 c1 c0 l _ G1.out.rd (R0.out.keep G1.out.bel) hn).mono ?_
    rintro e w3 ⟨rfl, hb3⟩
    have b3 := Lib.hid hb3
    clear hb3
    go_wp2_with fail
    refine (markIntS A1 l.length c1 l 1 w1 _ rfl (G1.out.after b3.out) hn (by omega)).mono ?_
    rintro e w4 ⟨rfl, hB4, hb4⟩
    have G4 := Lib.hid hB4
    have b4 := Lib.hid hb4
    clear hB4 hb4
    go_wp2_with fail
    refine (heldIntS A1 l.length c1 1 _ G4.out.rd hn (by omega)).mono ?_
    rintro e w5 ⟨rfl, hb5⟩
    have b5 := Lib.hid hb5
    clear hb5
    go_wp2_with fail
    refine (HI.out _).mono ?_
    rintro e w6 ⟨A2, c2, rfl, hB6⟩
    have G6 := Lib.hid hB6
    clear hB6
    have b16 : Hid (Below w1.heap.size w1 w6) := below_then (below_then (below_then G1.out.bel b3.out |>.trans b4.out) b5.out) G6.out.bel
    go_wp2_with fail
    refine (eqIntS A2 A0 c2 c0 l _ G6.out.rd (R0.out.keep b16.out) hn).mono ?_
    rintro e w7 ⟨rfl, hb7⟩
    have b7 := Lib.hid hb7
    clear hb7
    go_wp2_with fail
    refine (heldIntS A1 l.length c1 1 _ (G4.out.rd.keep (below_then (below_then b5.out G6.out.bel) b7.out)) hn (by omega)).mono ?_
    rintro e w8 ⟨rfl, hb8⟩
    go_wp2_with fail
    go_ret
    exact ⟨rfl, below_then b1.out (below_then (below_then b16.out b7.out) hb8)⟩
  · go_enter Try.func8, Try.ntmps8
    go_wp2
    go_ret
    exact ⟨rfl, Below.refl _ _⟩
end Go.Proofs.Ytndehfkamfmmeaa
