/-
  MirrorPlane of both packages and its law, walked.
-/
import Derived.Test.YtndehfkamfmmeaaPop
import Derived.Test.YtndehfkamfmmeaaPlO
import Derived.Test.YtndehfkamfmmeaaRevD
namespace Go.Proofs.Ytndehfkamfmmeaa
open Go.RowKit
theorem revI_toB (l : List UInt8) : strOfNums (revI l) = toB (rev l) := by
  rw [← bNum_toB]
  congr 1
  simp only [revI, rev, bNum, List.map_map]
  apply List.map_congr_left
  intro c _
  simp only [Function.comp]
  split <;> rfl
/-- What MirrorPlane returns first. -/
def mirV (p : List Int) : List Int := if plane p = true then planeOf (rev (pathOf p)) else []
theorem mirV_yes {p : List Int} (h : plane p = true) : mirV p = planeOf (rev (pathOf p)) := if_pos h
theorem mirV_no {p : List Int} (h : plane p = false) : mirV p = [] := if_neg (by rw [h]; simp)
theorem mirV_plane {p : List Int} (h : plane p = true) : mirV p = planeV (rev (pathOf p)) := by rw [mirV_yes h, planeV_yes (dyck_rev (pathOf_dyck h))]
theorem mirV_len (p : List Int) : (mirV p).length ≤ 9 := by
  cases h : plane p with
  | false => rw [mirV_no h]; simp
  | true => rw [mirV_plane h]; exact planeV_len _

set_option maxRecDepth 100000 in
set_option maxHeartbeats 1000000 in
theorem mirI (A : Option Addr) (n c : Nat) (p : List Int) (w : World) (hl : p.length = n) (ha : Rd .i64 w A p) (hn : n ≤ 1048576) : Calls Try.prog 33 #[.slice A n c] w (RetIB (mirV p) (plane p) w) := by
  have HPo := Lib.hid (popI A n c p w hl ha hn)
  clear ha hl
  cases hp : plane p with
  | false =>
    rw [popV_no hp] at HPo
    rw [mirV_no hp]
    go_enter Try.func33, Try.ntmps33
    go_wp2_with fail
    refine (HPo.out).mono ?_
    rintro e w1 ⟨rfl, hb⟩
    go_wp2_with fail
    go_ret2
    exact RetIB.of ((lit_nil _).from_ hb)
  | true =>
    rw [popV_yes hp] at HPo
    have hd := pathOf_dyck hp
    have hlen := pathOf_len hp
    have HR := Lib.hid (fun w => reverseI_yes (toB (pathOf p)) w (by rw [toB_size]; omega) hd)
    rw [toB_list, revI_toB] at HR
    have HO := Lib.hid (fun w => planeOfI (toB (rev (pathOf p))) w (by rw [toB_size, len_rev]; omega))
    rw [toB_list, dyck_rev hd, ← mirV_plane hp] at HO
    obtain ⟨x, hx⟩ : ∃ x, x = toB (pathOf p) := ⟨_, rfl⟩
    obtain ⟨y, hy⟩ : ∃ y, y = toB (rev (pathOf p)) := ⟨_, rfl⟩
    rw [← hx] at HPo HR
    rw [← hy] at HR HO
    clear hx hy hd hlen hp
    go_enter Try.func33, Try.ntmps33
    go_wp2_with fail
    refine (HPo.out).mono ?_
    rintro e w1 ⟨rfl, hb⟩
    go_wp2_with fail
    refine (HR.out _).mono ?_
    rintro e w2 ⟨rfl, hb2⟩
    go_wp2_with fail
    refine (HO.out _).mono ?_
    rintro e w3 ⟨A3, c3, rfl, hB3⟩
    go_wp2_with fail
    go_ret2
    exact RetIB.of (hB3.from_ (below_then hb hb2))
set_option maxRecDepth 100000 in
set_option maxHeartbeats 1000000 in
theorem mirS (A : Option Addr) (n c : Nat) (p : List Int) (w : World) (hl : p.length = n) (ha : Rd .i64 w A p) (hn : n ≤ 1048576) : Calls Try.prog 32 #[.slice A n c] w (RetIB (mirV p) (plane p) w) := by
  have HPo := Lib.hid (popS A n c p w hl ha hn)
  clear ha hl
  cases hp : plane p with
  | false =>
    rw [popV_no hp] at HPo
    rw [mirV_no hp]
    have HR := Lib.hid (fun w => reverseS_yes ByteArray.empty w (by decide) (by decide))
    go_enter Try.func32, Try.ntmps32
    go_wp2_with fail
    refine (HPo.out).mono ?_
    rintro e w1 ⟨rfl, hb⟩
    go_wp2_with fail
    refine (HR.out _).mono ?_
    rintro e w2 ⟨rfl, hb2⟩
    go_wp2_with fail
    go_ret2
    exact RetIB.of ((lit_nil _).from_ (below_then hb hb2))
  | true =>
    rw [popV_yes hp] at HPo
    have hd := pathOf_dyck hp
    have hlen := pathOf_len hp
    have HR := Lib.hid (fun w => reverseS_yes (toB (pathOf p)) w (by rw [toB_size]; omega) hd)
    rw [toB_list, revI_toB] at HR
    have HO := Lib.hid (fun w => planeOfS (toB (rev (pathOf p))) w (by rw [toB_size, len_rev]; omega))
    rw [toB_list, dyck_rev hd, ← mirV_plane hp] at HO
    obtain ⟨x, hx⟩ : ∃ x, x = toB (pathOf p) := ⟨_, rfl⟩
    obtain ⟨y, hy⟩ : ∃ y, y = toB (rev (pathOf p)) := ⟨_, rfl⟩
    rw [← hx] at HPo HR
    rw [← hy] at HR HO
    clear hx hy hd hlen hp
    go_enter Try.func32, Try.ntmps32
    go_wp2_with fail
    refine (HPo.out).mono ?_
    rintro e w1 ⟨rfl, hb⟩
    go_wp2_with fail
    refine (HR.out _).mono ?_
    rintro e w2 ⟨rfl, hb2⟩
    go_wp2_with fail
    refine (HO.out _).mono ?_
    rintro e w3 ⟨A3, c3, rfl, hB3⟩
    go_wp2_with fail
    go_ret2
    exact RetIB.of (hB3.from_ (below_then hb hb2))
set_option maxRecDepth 100000 in
set_option maxHeartbeats 2000000 in
theorem law_FnExactMirrorPlane (A : Option Addr) (n c : Nat) (zs : List Int) (w : World) (h : Row .i64 w A n zs) : Calls Try.prog 10 #[.slice A n c] w fun e w' => e = .returned (.bool true) ∧ Below w.heap.size w w' := by
  obtain ⟨hl, hm, _, hr⟩ := h
  unfold maxLen at hm
  subst hl
  by_cases hb : zs.length ≤ 1048576
  · have HT := Lib.hid (fun w' (hbw : Below w.heap.size w w') => toIntS A zs.length c zs w' rfl (hr.keep hbw) (by omega))
    have HS := Lib.hid (fun A c w (hr : Rd .i64 w A zs) => mirS A zs.length c zs w rfl hr hb)
    have HI := Lib.hid (fun A c w (hr : Rd .i64 w A zs) => mirI A zs.length c zs w rfl hr hb)
    have hn : (mirV zs).length ≤ 1073741824 := by have := mirV_len zs; omega
    obtain ⟨l, hv⟩ : ∃ l, l = mirV zs := ⟨_, rfl⟩
    rw [← hv] at HS HI hn
    obtain ⟨bb, hbb⟩ : ∃ bb, bb = plane zs := ⟨_, rfl⟩
    rw [← hbb] at HS HI
    clear hbb
    clear hv hr
    go_enter Try.func10, Try.ntmps10
    go_wp2_with fail
    refine (HT.out _ (Below.refl _ _)).mono ?_
    rintro e w1 ⟨A1, c1, rfl, hB1⟩
    go_wp2_with fail
    refine (HS.out _ _ _ hB1.rd).mono ?_
    rintro e w2 ⟨A0, c0, rfl, hB0⟩
    have R0 := Lib.hid hB0.rd
    have L2 := Lib.hid (below_then hB1.bel hB0.bel)
    clear hB1 hB0
    go_wp2_with fail
    refine (HT.out _ L2.out).mono ?_
    rintro e w3 ⟨A3, c3, rfl, hB3⟩
    have G3 := Lib.hid hB3
    clear hB3
    go_wp2_with fail
    refine (HI.out _ _ _ G3.out.rd).mono ?_
    rintro e w4 ⟨A4, c4, rfl, hB4⟩
    have D4 := Lib.hid (G3.out.later hB4)
    have M3 := Lib.hid (G3.out.after hB4.bel)
    have M4 := Lib.hid (hB4.from_ G3.out.bel)
    clear hB4 G3
    go_wp2_with fail
    refine (eqIntS A4 A0 c4 c0 l _ M4.out.rd (R0.out.keep M4.out.bel) hn).mono ?_
    rintro e w5 ⟨rfl, hb5⟩
    have N3 := Lib.hid (M3.out.after hb5)
    have N4 := Lib.hid (M4.out.after hb5)
    clear hb5 M3 M4
    go_wp2_with fail
    refine (HT.out _ (below_then L2.out N3.out.bel)).mono ?_
    rintro e w6 ⟨A6, c6, rfl, hB6⟩
    have P3 := Lib.hid (N3.out.after hB6.bel)
    have P4 := Lib.hid (N4.out.after hB6.bel)
    have R6 := Lib.hid hB6.rd
    clear hB6 N3 N4
    go_wp2_with fail
    refine (eqIntS A3 A6 c3 c6 zs _ P3.out.rd R6.out (by omega)).mono ?_
    rintro e w7 ⟨rfl, hb7⟩
    have Q3 := Lib.hid (P3.out.after hb7)
    have Q4 := Lib.hid (P4.out.after hb7)
    clear hb7 P3 P4 R6
    go_wp2_with fail
    refine (markIntG A3 zs.length c3 zs 1 w2 _ rfl Q3.out (by omega) (by omega)).mono ?_
    rintro e w8 ⟨rfl, hB8, hg8⟩
    have S4 := Lib.hid (Q4.out.kept_ hg8 D4.out (fun k hk => (Q3.out.own.lt k hk).1))
    clear hB8 hg8 Q3 Q4
    have hk1 : decide (((1 : Nat) : Int) + (zs.length : Int) < 0) = false := by simp; omega
    have hk2 : ((1 : Nat) : Int) + (zs.length : Int) ≤ 1073741824 := by omega
    have hk3 : 0 ≤ ((1 : Nat) : Int) + (zs.length : Int) := by omega
    go_wp2_with fail
    refine (eqIntS A4 A0 c4 c0 l _ S4.out.rd (R0.out.keep S4.out.bel) hn).mono ?_
    rintro e w9 ⟨rfl, hb9⟩
    have T4 := Lib.hid (S4.out.after hb9)
    clear hb9 S4
    go_wp2_with fail
    refine (markIntS A4 l.length c4 l 1 w2 _ rfl T4.out hn (by omega)).mono ?_
    rintro e w10 ⟨rfl, hB10, _⟩
    have U4 := Lib.hid hB10
    clear hB10 T4
    go_wp2_with fail
    refine (heldIntS A4 l.length c4 1 _ U4.out.rd hn (by omega)).mono ?_
    rintro e w11 ⟨rfl, hb11⟩
    have V4 := Lib.hid (U4.out.after hb11)
    clear hb11 U4
    go_wp2_with fail
    refine (HT.out _ (below_then L2.out V4.out.bel)).mono ?_
    rintro e w12 ⟨A12, c12, rfl, hB12⟩
    have W4 := Lib.hid (V4.out.after hB12.bel)
    have R12 := Lib.hid hB12.rd
    clear hB12 V4
    go_wp2_with fail
    refine (HI.out _ _ _ R12.out).mono ?_
    rintro e w13 ⟨A13, c13, rfl, hB13⟩
    have X4 := Lib.hid (W4.out.after hB13.bel)
    have R13 := Lib.hid hB13.rd
    clear hB13 W4
    go_wp2_with fail
    refine (eqIntS A13 A0 c13 c0 l _ R13.out (R0.out.keep X4.out.bel) hn).mono ?_
    rintro e w14 ⟨rfl, hb14⟩
    have Y4 := Lib.hid (X4.out.after hb14)
    clear hb14 X4
    go_wp2_with fail
    refine (heldIntS A4 l.length c4 1 _ Y4.out.rd hn (by omega)).mono ?_
    rintro e w15 ⟨rfl, hb15⟩
    go_wp2_with fail
    go_ret
    exact ⟨rfl, below_then L2.out (below_then Y4.out.bel hb15)⟩
  · clear hr
    go_enter Try.func10, Try.ntmps10
    go_wp2
    go_ret
    exact ⟨rfl, Below.refl _ _⟩
end Go.Proofs.Ytndehfkamfmmeaa
