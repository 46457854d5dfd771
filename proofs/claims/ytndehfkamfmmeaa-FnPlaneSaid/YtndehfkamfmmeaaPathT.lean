/-
  What the program says of the path of a tree.
-/
import Derived.Test.YtndehfkamfmmeaaPathF
import Derived.Test.YtndehfkamfmmeaaPath1
import Derived.Test.YtndehfkamfmmeaaArea
namespace Go.Proofs.Ytndehfkamfmmeaa
open Go.RowKit
open Tr
theorem area_small (t : Tr) (hn : t.nodes ≤ 8) : 0 ≤ areaT 0 t ∧ areaT 0 t ≤ 8 * t.nodes := by
  induction t with
  | lf => simp [areaT, nodes]
  | nd a b ha hb =>
    simp only [nodes] at hn
    have h1 := ha (by omega)
    have h2 := hb (by omega)
    have h3 := area_up a 0
    simp only [areaT, nodes]
    omega
theorem areasT (t : Tr) (hn : t.nodes ≤ 8) (w : World) : Calls Try.prog 39 #[.string (toB t.path)] w fun e w' => e = .returned (.int .i64 (areaT 0 t)) ∧ Below w.heap.size w w' := by
  have := areaI (toB t.path) w (by rw [toB_size, len_path]; omega)
  rw [toB_list, areaV_tree t hn] at this
  exact this
theorem peaksT (t : Tr) (hn : t.nodes ≤ 8) (w : World) : Calls Try.prog 37 #[.string (toB t.path)] w fun e w' => e = .returned (.int .i64 (pkT t)) ∧ Below w.heap.size w w' := by
  have := peaksI (toB t.path) w (by rw [toB_size, len_path]; omega)
  rw [toB_list, peaksV_tree t hn] at this
  exact this
theorem sizeT (t : Tr) (hn : t.nodes ≤ 8) (w : World) : Calls Try.prog 40 #[.string (toB t.path)] w fun e w' => e = .returned (.int .i64 t.nodes) ∧ Below w.heap.size w w' := by
  have := sizeOfS (toB t.path) w (by rw [toB_size, len_path]; omega)
  rw [toB_list, sizeV_tree t hn] at this
  exact this
theorem path_of_dyck' {s : ByteArray} (h : dyck s.data.toList = true) : ∃ t : Tr, s = toB t.path ∧ t.nodes ≤ 8 := by
  obtain ⟨t, h1, h2⟩ := tree_of_dyck h
  exact ⟨t, by rw [h1, toB_of], h2⟩
end Go.Proofs.Ytndehfkamfmmeaa
