/-
  spec.l6Binary and impl.treeOfPath, walked: the tree of a path.
-/
import Derived.Test.YthbfockobnfomaaCutP
import Derived.Test.YthbfockobnfomaaBinS
import Derived.Test.YthbfockobnfomaaBinT
namespace Go.Proofs.Ythbfockobnfomaa
open Go.RowKit
theorem path_isEmpty (t : Tr) (b : Bool) (h : t.path.isEmpty = b) : (toB t.path).data.toList.isEmpty = b ∧ (toB t.path).toList.isEmpty = b := ⟨h, by rw [bytes_list]; exact h⟩

set_option maxRecDepth 100000 in
set_option maxHeartbeats 1000000 in
theorem l6BinaryS (t : Tr) (hn : t.nodes ≤ 8) : ∀ w : World, Calls Try.prog 68 #[.string (toB t.path)] w fun e w' => e = .returned (.string (toB t.txt)) ∧ ∃ n, w' = w.drewN n := by
  induction t with
  | lf =>
    intro w
    obtain ⟨e1, e2⟩ := path_isEmpty .lf true rfl
    obtain ⟨x, hx⟩ : ∃ x, x = toB (Tr.lf).path := ⟨_, rfl⟩
    rw [← hx] at e1 e2 ⊢
    clear hx
    go_enter Try.func68, Try.ntmps68
    go_wp2
    go_ret
    exact ⟨rfl, 0, rfl⟩
  | nd a b iha ihb =>
    intro w
    simp only [Tr.nodes] at hn
    obtain ⟨e1, e2⟩ := path_isEmpty (.nd a b) false rfl
    have hla := len_path a
    have hlb := len_path b
    have hsz : (toB (Tr.nd a b).path).size = a.path.length + 1 + 1 + b.path.length := by rw [toB_size, len_path, hla, hlb, Tr.nodes]; omega
    have HE := Lib.hid (fun w => l2CutS (toB (Tr.nd a b).path) (a.path.length + 1) w (by omega) (path_isPath _) (cut_nd a b))
    have HA := Lib.hid (iha (by omega))
    have HC := Lib.hid (ihb (by omega))
    rw [← nd_left a b] at HA
    rw [← nd_back a b (toB (Tr.nd a b).path).size (by rw [toB_size])] at HC
    have HT := Lib.hid (toB_par' a.txt b.txt)
    have HV : Hid (toB (Tr.nd a b).txt = toB (40 :: (a.txt ++ (b.txt ++ [41])))) := rfl
    have s1 : (toB a.txt).size ≤ 25 := by rw [toB_size, len_txt]; omega
    have s2 : (toB b.txt).size ≤ 25 := by rw [toB_size, len_txt]; omega
    obtain ⟨x, hx⟩ : ∃ x, x = toB a.txt := ⟨_, rfl⟩
    obtain ⟨y, hy⟩ : ∃ y, y = toB b.txt := ⟨_, rfl⟩
    obtain ⟨s, hs⟩ : ∃ s, s = toB (Tr.nd a b).path := ⟨_, rfl⟩
    obtain ⟨m, hm⟩ : ∃ m, m = a.path.length + 1 := ⟨_, rfl⟩
    rw [← hx] at HA HT s1
    rw [← hy] at HC HT s2
    rw [← hs] at hsz e1 e2 HE HA HC ⊢
    rw [← hm] at hsz HE HA HC
    have p1 : (⟨#[40]⟩ : ByteArray).size ≤ 1 := Nat.le_refl _
    have p2 : (⟨#[41]⟩ : ByteArray).size ≤ 1 := Nat.le_refl _
    have s3 : (⟨#[40]⟩ ++ x : ByteArray).size ≤ 26 := by rw [ByteArray.size_append]; omega
    have s4 : (⟨#[40]⟩ ++ x ++ y : ByteArray).size ≤ 51 := by rw [ByteArray.size_append]; omega
    have k1 : (1 : Int) ≤ (m : Int) := by omega
    have k2 : (m : Int) ≤ (s.size : Int) := by omega
    have k3 : (m : Int) + 1 ≤ (s.size : Int) := by omega
    have k5 : (0 : Int) ≤ (m : Int) + 1 := by omega
    have k6 : IntKind.i64.wrap ((m : Int) + 1) = (m : Int) + 1 := IntWalk.i64_in _ ⟨by omega, by omega⟩
    have k7 : ((m : Int) + 1).toNat = m + 1 := by omega
    clear iha ihb hx hy hs hm hsz hla hlb
    go_enter Try.func68, Try.ntmps68
    go_wp2_with (go_at_call 86; refine (HE.out _).mono ?_; rintro e w' ⟨rfl, rfl⟩)
    go_quiet ((go_at_call 68; first | (with_reducible exact Calls.quiet_of (HA.out _)) | (with_reducible exact Calls.quiet_of (HC.out _))))
    go_wp2_with fail
    go_ret
    exact ⟨by rw [HV.out, ← HT.out]; rfl, nq, rfl⟩
set_option maxRecDepth 100000 in
set_option maxHeartbeats 1000000 in
theorem treeOfPathI (t : Tr) (hn : t.nodes ≤ 8) : ∀ w : World, Calls Try.prog 70 #[.string (toB t.path)] w (RetT t w) := by
  induction t with
  | lf =>
    intro w
    have HF := Lib.hid (fun w => firstI_no (toB (Tr.lf).path) w (by rw [toB_size]; decide) (.inr rfl))
    obtain ⟨x, hx⟩ : ∃ x, x = toB (Tr.lf).path := ⟨_, rfl⟩
    rw [← hx] at HF ⊢
    clear hx
    go_enter Try.func70, Try.ntmps70
    go_wp2_with fail
    refine (HF.out _).mono ?_
    rintro e w1 ⟨rfl, hb1⟩
    go_wp2
    go_ret
    exact ⟨_, rfl, rfl, hb1⟩
  | nd a b iha ihb =>
    intro w
    simp only [Tr.nodes] at hn
    have hsz : (toB (Tr.nd a b).path).size ≤ 16 := by rw [toB_size, len_path, Tr.nodes]; omega
    have HF := Lib.hid (fun w => firstI_yes (toB (Tr.nd a b).path) (a.path.length + 1) w (by omega) (path_dyck _ (by simp only [Tr.nodes]; omega)) (cut_nd a b))
    unfold firstR at HF
    rw [nd_left, nd_back a b _ (by rw [toB_size])] at HF
    have HA := Lib.hid (iha (by omega))
    have HC := Lib.hid (ihb (by omega))
    obtain ⟨x, hx⟩ : ∃ x, x = toB a.path := ⟨_, rfl⟩
    obtain ⟨y, hy⟩ : ∃ y, y = toB b.path := ⟨_, rfl⟩
    obtain ⟨s, hs⟩ : ∃ s, s = toB (Tr.nd a b).path := ⟨_, rfl⟩
    rw [← hx] at HA HF
    rw [← hy] at HC HF
    rw [← hs] at HF ⊢
    clear iha ihb hx hy hs hsz
    go_enter Try.func70, Try.ntmps70
    go_wp2_with fail
    refine (HF.out _).mono ?_
    rintro e w1 ⟨rfl, hb1⟩
    go_wp2_with fail
    refine (HA.out _).mono ?_
    rintro e w2 ⟨v2, rfl, ht2, hb2⟩
    obtain ⟨p2, rfl⟩ := ht2.form
    go_wp2_with fail
    refine (HC.out _).mono ?_
    rintro e w3 ⟨v3, rfl, ht3, hb3⟩
    obtain ⟨p3, rfl⟩ := ht3.form
    have HT : Hid (TreeAt (w3.alloc (.cells #[.pointer p2, .pointer p3] 52)) (.pointer (some ⟨w3.heap.size, 0, none⟩)) (Tr.nd a b)) := (ht2.keep hb3).node ht3
    have hb := below_then hb1 (below_then hb2 hb3)
    have HB := Lib.hid (hb.alloc hb.size (.cells #[.pointer p2, .pointer p3] 52))
    clear hb hb1 hb2 hb3 ht2 ht3
    go_wp2
    go_ret
    exact ⟨_, rfl, HT.out, HB.out⟩
end Go.Proofs.Ythbfockobnfomaa
