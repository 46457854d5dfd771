/-
  What the program says of the path of a tree.
-/
import Derived.Test.YtmjnafpjfodbdaaPathF
import Derived.Test.YtmjnafpjfodbdaaPath1
import Derived.Test.YtmjnafpjfodbdaaArea
namespace Go.Proofs.Ytmjnafpjfodbdaa
open Go.RowKit
open Tr
theorem area_small (t : Tr) (hn : t.nodes ≤ 8) : 0 ≤ areaT 0 t ∧ areaT 0 t ≤ 8 * t.nodes := by
  induction t with
  | lf => simp [areaT, nodes]
  | nd a b ha hb =>
    simp only [nodes] at hn
    have h1 := ha (by omega)
    have h2 := hb (by omega)
    have h3 := area_up a 0
    simp only [areaT, nodes]
    omega
theorem retsT (t : Tr) (hn : t.nodes ≤ 8) (w : World) : Calls Try.prog 29 #[.string (toB t.path)] w fun e w' => e = .returned (.int .i64 (spine t)) ∧ Below w.heap.size w w' := by
  have := returnsI (toB t.path) w (by rw [toB_size, len_path]; omega)
  rw [toB_list, retV_tree t hn] at this
  exact this
theorem areasT (t : Tr) (hn : t.nodes ≤ 8) (w : World) : Calls Try.prog 28 #[.string (toB t.path)] w fun e w' => e = .returned (.int .i64 (areaT 0 t)) ∧ Below w.heap.size w w' := by
  have := areaI (toB t.path) w (by rw [toB_size, len_path]; omega)
  rw [toB_list, areaV_tree t hn] at this
  exact this
theorem peaksT (t : Tr) (hn : t.nodes ≤ 8) (w : World) : Calls Try.prog 33 #[.string (toB t.path)] w fun e w' => e = .returned (.int .i64 (pkT t)) ∧ Below w.heap.size w w' := by
  have := peaksI (toB t.path) w (by rw [toB_size, len_path]; omega)
  rw [toB_list, peaksV_tree t hn] at this
  exact this
theorem sizeT (t : Tr) (hn : t.nodes ≤ 8) (w : World) : Calls Try.prog 24 #[.string (toB t.path)] w fun e w' => e = .returned (.int .i64 t.nodes) ∧ Below w.heap.size w w' := by
  have := sizeOfS (toB t.path) w (by rw [toB_size, len_path]; omega)
  rw [toB_list, sizeV_tree t hn] at this
  exact this
theorem path_of_dyck' {s : ByteArray} (h : dyck s.data.toList = true) : ∃ t : Tr, s = toB t.path ∧ t.nodes ≤ 8 := by
  obtain ⟨t, h1, h2⟩ := tree_of_dyck h
  exact ⟨t, by rw [h1, toB_of], h2⟩
end Go.Proofs.Ytmjnafpjfodbdaa
