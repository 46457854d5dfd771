/-
  What both packages say of a row of parents and of the plane tree of a path, joined.
-/
import Derived.Test.YtndehfkamfmmeaaPlF
import Derived.Test.YtndehfkamfmmeaaTot
import Derived.Test.YtndehfkamfmmeaaChL
import Derived.Test.YtndehfkamfmmeaaLev
import Derived.Test.YtndehfkamfmmeaaMir
import Derived.Test.YtndehfkamfmmeaaPop
import Derived.Test.YtndehfkamfmmeaaPlO
import Derived.Test.YtndehfkamfmmeaaGlue
import Derived.Test.YtndehfkamfmmeaaPathT
namespace Go.Proofs.Ytndehfkamfmmeaa
open Go.RowKit
open Tr
/-- What both packages say of a row. -/
structure RowF (l : List Int) (x : ByteArray) (g : Bool) (M V : List Int) (lv : Int) (f : ByteArray) : Prop where
  poI : ∀ A c w, Rd .i64 w A l → Calls Try.prog 27 #[.slice A l.length c] w fun e w' => e = .returned (.tuple #[.string x, .bool g]) ∧ Below w.heap.size w w'
  poS : ∀ A c w, Rd .i64 w A l → Calls Try.prog 26 #[.slice A l.length c] w fun e w' => e = .returned (.tuple #[.string x, .bool g]) ∧ Below w.heap.size w w'
  isI : ∀ A c w, Rd .i64 w A l → Calls Try.prog 16 #[.slice A l.length c] w fun e w' => e = .returned (.bool g) ∧ Below w.heap.size w w'
  miI : ∀ A c w, Rd .i64 w A l → Calls Try.prog 33 #[.slice A l.length c] w (RetIB M g w)
  miS : ∀ A c w, Rd .i64 w A l → Calls Try.prog 32 #[.slice A l.length c] w (RetIB M g w)
  ml : M.length ≤ 9
  lvI : ∀ A c w, Rd .i64 w A l → Calls Try.prog 25 #[.slice A l.length c] w (RetI V w)
  lvS : ∀ A c w, Rd .i64 w A l → Calls Try.prog 24 #[.slice A l.length c] w (RetI V w)
  vl : V.length ≤ 9
  lfI : ∀ A c w, Rd .i64 w A l → Calls Try.prog 23 #[.slice A l.length c] w fun e w' => e = .returned (.int .i64 lv) ∧ Below w.heap.size w w'
  lfS : ∀ A c w, Rd .i64 w A l → Calls Try.prog 22 #[.slice A l.length c] w fun e w' => e = .returned (.int .i64 lv) ∧ Below w.heap.size w w'
  fpI : ∀ A c w, Rd .i64 w A l → Calls Try.prog 31 #[.slice A l.length c] w fun e w' => e = .returned (.string f) ∧ Below w.heap.size w w'
  fpS : ∀ A c w, Rd .i64 w A l → Calls Try.prog 30 #[.slice A l.length c] w fun e w' => e = .returned (.string f) ∧ Below w.heap.size w w'
  chI : ∀ A c v w, Rd .i64 w A l → Calls Try.prog 19 #[.slice A l.length c, .int .i64 v] w (RetI (chV l v) w)
  chS : ∀ A c v w, Rd .i64 w A l → Calls Try.prog 18 #[.slice A l.length c, .int .i64 v] w (RetI (chV l v) w)
def popX (l : List Int) : ByteArray := if plane l = true then toB (pathOf l) else ByteArray.empty
theorem popV_X (l : List Int) : popV l = .tuple #[.string (popX l), .bool (plane l)] := by
  unfold popX
  by_cases h : plane l = true
  · rw [popV_yes h, if_pos h, h]
  · have h' : plane l = false := by simpa using h
    rw [popV_no h', if_neg h, h']
theorem row_any (l : List Int) (hn : l.length ≤ 1048576) : RowF l (popX l) (plane l) (mirV l) (levels l) (leafV l) (fpV l) :=
  ⟨fun A c w hr => popV_X l ▸ popI A _ c l w rfl hr hn, fun A c w hr => popV_X l ▸ popS A _ c l w rfl hr hn, fun A c w hr => isPlaneI_b A _ c l w rfl hr hn, fun A c w hr => mirI A _ c l w rfl hr hn, fun A c w hr => mirS A _ c l w rfl hr hn, mirV_len l,
   fun A c w hr => levelsI A _ c l w rfl hr hn, fun A c w hr => levelsS A _ c l w rfl hr hn, levels_len l, fun A c w hr => leavesI A _ c l w rfl hr hn, fun A c w hr => leavesS A _ c l w rfl hr hn, fun A c w hr => fpI A _ c l w rfl hr hn, fun A c w hr => fpS A _ c l w rfl hr hn,
   fun A c v w hr => childrenI A _ c l v w rfl hr hn, fun A c v w hr => childrenS A _ c l v w rfl hr hn⟩
/-- What the law asks of a path. -/
structure PlaneG (s : ByteArray) (L M V : List Int) (lv pk ar sz : Int) : Prop where
  back : ∀ A c w, Rd .i64 w A M → Calls Try.prog 33 #[.slice A M.length c] w (RetIB L true w)
  pkI : ∀ w, Calls Try.prog 37 #[.string s] w fun e w' => e = .returned (.int .i64 pk) ∧ Below w.heap.size w w'
  arI : ∀ w, Calls Try.prog 39 #[.string s] w fun e w' => e = .returned (.int .i64 ar) ∧ Below w.heap.size w w'
  szS : ∀ w, Calls Try.prog 40 #[.string s] w fun e w' => e = .returned (.int .i64 sz) ∧ Below w.heap.size w w'
  toV : ∀ A c w, Rd .i64 w A V → Calls Try.prog 38 #[.slice A V.length c] w fun e w' => e = .returned (.int .i64 (ar + sz)) ∧ Below w.heap.size w w'
  b1 : 0 ≤ ar ∧ ar ≤ 1000
  b2 : 0 ≤ sz ∧ sz ≤ 1000
/-- Whether a word is a path, and its row. -/
structure PlaneF (s : ByteArray) (is : Bool) (L : List Int) : Prop where
  pI : ∀ w, Calls Try.prog 29 #[.string s] w (RetIB L is w)
  pS : ∀ w, Calls Try.prog 28 #[.string s] w (RetIB L is w)
  ln : L.length ≤ 9
theorem plane_any (s : ByteArray) (hs : s.size ≤ 1000) : PlaneF s (dyck s.data.toList) (planeV s.data.toList) :=
  ⟨fun w => planeOfI s w (by omega), fun w => planeOfS s w (by omega), planeV_len _⟩
theorem plane_yes (s : ByteArray) (hd : dyck s.data.toList = true) : ∃ M V lv pk f ar sz, RowF (planeV s.data.toList) s true M V lv f ∧ PlaneG s (planeV s.data.toList) M V lv pk ar sz ∧ (s.size = 0 ∨ (¬ s.size = 0 ∧ lv = pk)) := by
  obtain ⟨t, rfl, hn⟩ := path_of_dyck' hd
  have hlp := len_path t
  have e0 : planeV (toB t.path).data.toList = planeOf t.path := planeV_yes hd
  rw [e0]
  have hpl := plane_planeOf hd
  rw [toB_list] at hpl hd
  have hrow := row_any (planeOf t.path) (by have := len_planeOf (dyck_path hd); omega)
  have ex : popX (planeOf t.path) = toB t.path := by unfold popX; rw [if_pos hpl, pathOf_planeOf hd]
  obtain ⟨m1, m2, m3⟩ := mir_twice hd
  have hrow2 := row_any (planeOf (rev t.path)) (by have := len_planeOf (dyck_path (dyck_rev hd)); rw [len_rev] at this; omega)
  have hb := hrow2.miI
  rw [m2, m3] at hb
  rw [ex, hpl, m1] at hrow
  have bb := area_small t hn
  have ht := levels_tot t hn
  rw [areaV_tree t hn, sizeV_tree t hn] at ht
  refine ⟨_, _, _, pkT t, _, areaT 0 t, t.nodes, hrow, ⟨hb, peaksT t hn, areasT t hn, sizeT t hn, fun A c w hr => ?_, ⟨by omega, by omega⟩, ⟨by omega, by omega⟩⟩, ?_⟩
  · have h := totalC A c (levels (planeOf t.path)) w hr (levels_small t hn) (by have := levels_len (planeOf t.path); omega)
    rw [ht] at h
    exact h
  · by_cases h0 : t.nodes = 0
    · left; rw [toB_size]; omega
    · right
      refine ⟨by rw [toB_size]; omega, ?_⟩
      rw [leaves_tree t hn h0, peaksV_tree t hn]
end Go.Proofs.Ytndehfkamfmmeaa
