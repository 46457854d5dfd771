/-
  The reference's draws of paths: l1Pick, l1Spoil, l2Draw, l2Path, l2Any.
-/
import Derived.Test.YthbfockobnfomaaDraw2
import Derived.Test.YthbfockobnfomaaStrL
import Derived.Test.YthbfockobnfomaaBsP
import Derived.Test.YthbfockobnfomaaDyckP
namespace Go.Proofs.Ythbfockobnfomaa
open Go.RowKit
theorem RdS.at2 {w : World} {b o : Nat} {l : List ByteArray} (h : RdS w (some ⟨b, o, none⟩) l) (i : Nat) (hi : i < l.length) : w.cell? ⟨b, o + i, none⟩ = some (.string (l.getD i ByteArray.empty)) := by
  obtain ⟨b', o', he, _, hc⟩ := h i hi
  cases he
  exact hc
set_option maxRecDepth 100000 in
theorem pickC (w0 w : World) (q : Nat) (A : Option Addr) (n c : Nat) (zs : List Int) (hC : Cur w0 w q A n c zs) (l : List ByteArray) (L : Nat) (hL : l.length = L) (h0 : 0 < L) (hN : L ≤ 1000) :
    Calls Try.prog 91 #[.pointer (some ⟨q, 0, none⟩), .slice (some ⟨w.heap.size, 0, none⟩) L L] (w.alloc (.cells (l.map Value.string).toArray 9)) fun e w' => (∃ x : ByteArray, e = .returned (.string x) ∧ x ∈ l) ∧ Cur w0 w' q A n c zs := by
  have hB := Buf.lit (w0 := w0) (e := 9) hC.bel (l.map Value.string) (by rw [List.length_map, hL]; unfold maxLen; omega)
  have hC1 := hC.below ((Below.refl _ w).alloc (Nat.le_refl _) (.cells (l.map Value.string).toArray 9))
  rw [List.length_map, hL] at hB
  have HR := Lib.hid (fun w' (hg : (w.alloc (.cells (l.map Value.string).toArray 9)).grownBy w' (some q)) => (by have hb := hC1.buf hB (by decide) hg; rw [← hL] at hb; exact RdS.buf hb : RdS w' (some ⟨w.heap.size, 0, none⟩) l))
  have HB := Lib.hid (belowC w0 _ q A n c zs hC1 L h0 (by omega))
  obtain ⟨W, hW⟩ : ∃ W, W = w.alloc (.cells (l.map Value.string).toArray 9) := ⟨_, rfl⟩
  rw [← hW] at HR HB ⊢
  have HL := Lib.hid hL
  clear hC hB hC1 hL hW
  obtain ⟨g, hg⟩ : ∃ g, g = w.heap.size := ⟨_, rfl⟩
  rw [← hg] at HR ⊢
  clear hg
  go_enter Try.func91, Try.ntmps91
  go_wp2_with fail
  refine HB.out.mono ?_
  rintro e w1 ⟨⟨x, rfl, hx⟩, hC1, hg1⟩
  have hc := (HR.out _ hg1).at2 x (by rw [HL.out]; exact hx)
  rw [Nat.zero_add, List.getD_eq_getElem?_getD] at hc
  have hm : l[x]?.getD ByteArray.empty ∈ l := by rw [List.getElem?_eq_getElem (by rw [HL.out]; exact hx)]; exact List.getElem_mem _
  have hx1 : (x : Int) < (L : Int) := by omega
  have hx0 : (0 : Int) ≤ (x : Int) := by omega
  go_wp2_with fail
  go_ret
  exact ⟨⟨_, rfl, hm⟩, hC1⟩
end Go.Proofs.Ythbfockobnfomaa
