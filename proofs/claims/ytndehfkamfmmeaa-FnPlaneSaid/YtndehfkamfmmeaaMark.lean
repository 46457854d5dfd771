/-
  markIntS once more: nothing but the row's own block is changed; and the shape of the laws whose argument and result are slices of numbers.
-/
import Derived.Test.YtndehfkamfmmeaaIntArg
namespace Go.Proofs.Ytndehfkamfmmeaa
open Go.RowKit
theorem grown_refl (w : World) (row : Option Nat) : w.grownBy w row := ⟨rfl, rfl, rfl, Nat.le_refl _, fun _ _ _ => rfl⟩
theorem grown_set {w w' : World} {g : Nat} (h : w.grownBy w' (some g)) (j : Nat) (u : Value) : w.grownBy (w'.setCell ⟨g, j, none⟩ u) (some g) :=
  ⟨h.os, h.tape, h.output, by have := h.size; simpa [World.setCell] using this, fun k hk hne => (Below.heap_setCell _ _ _ _ (fun e => hne (by rw [e]))).trans (h.block k hk hne)⟩

set_option maxRecDepth 100000 in
set_option maxHeartbeats 400000 in
theorem markIntG (A : Option Addr) (n c : Nat) (l : List Int) (k0 : Nat) (w0 w : World) (hl : l.length = n) (hB : Buf w0 w 3 (.slice A n c) (l.map (Value.int .i64))) (hn : n ≤ 1073741824) (hk : k0 ≤ 1073741824) :
    Calls Try.prog 20 #[.slice A n c, .int .i64 (k0 : Int)] w fun e w' => e = .returned (.int .i64 ((k0 : Int) + n)) ∧ Buf w0 w' 3 (.slice A n c) ((marks k0 n).map (Value.int .i64)) ∧ w.grownBy w' (Value.slice A n c).ownBlock := by
  go_enter Try.func20, Try.ntmps20
  go_wp2
  go_loopw [5, 1] (fun i k wr => ∃ j : Nat, j ≤ n ∧ i = .int .i64 j ∧ k = .int .i64 ((k0 : Int) + j) ∧ Buf w0 wr 3 (.slice A n c) ((marks k0 j ++ l.drop j).map (Value.int .i64)) ∧ Hid (w.grownBy wr (Value.slice A n c).ownBlock)) (fun i _ _ => n - (intOf i).toNat)
  case atStart => exact ⟨0, Nat.zero_le _, rfl, by go_num, hB, grown_refl _ _⟩
  case round =>
    obtain ⟨j, hj, rfl, rfl, hBr, HG⟩ := hrel
    by_cases hlt : j < n
    · obtain ⟨g, rfl⟩ := hBr.some_ (by omega)
      have hc := hBr.cellAt j hlt
      have hf := hBr.frozenAt j
      have HS := Lib.hid (hBr.set j (.int .i64 ((k0 : Int) + j)))
      have hset : ((marks k0 j ++ l.drop j).map (Value.int .i64)).set j (.int .i64 ((k0 : Int) + j)) = (marks k0 (j + 1) ++ l.drop (j + 1)).map (Value.int .i64) := by
        rw [List.drop_eq_getElem_cons (by omega : j < l.length), ← List.map_set, marks_snoc, set_mid _ _ _ _ j (len_marks _ _)]
      rw [hset] at HS
      have HG2 : Hid (w.grownBy (wr.setCell ⟨g, j, none⟩ (.int .i64 ((k0 : Int) + j))) (Value.slice (some ⟨g, 0, none⟩) n c).ownBlock) := grown_set HG.out j _
      obtain ⟨u, hu⟩ : ∃ u, ((marks k0 j ++ l.drop j).map (Value.int .i64))[j]? = some u := ⟨_, List.getElem?_eq_getElem (by simp [len_marks]; omega)⟩
      rw [hu] at hc
      clear hu hset hBr HG
      go_wp2
      go_roundw
      case rel => exact ⟨j + 1, by omega, by go_num, by go_num, HS.out, HG2.out⟩
      case measure => simp [intOf]; omega
    · obtain rfl : j = n := by omega
      rw [List.drop_of_length_le (by omega), List.append_nil] at hBr
      go_wp2
      go_ret
      exact ⟨rfl, hBr, HG.out⟩
/-- A row made later is not the row of before. -/
theorem Buf.later {w0 w1 w : World} {e e' : TypeId} {A B : Option Addr} {n c m d : Nat} {xs ys : List Value} (h : Buf w0 w1 e (.slice A n c) xs) (h' : Buf w1 w e' (.slice B m d) ys) : (Value.slice B m d).ownBlock = none ∨ (Value.slice B m d).ownBlock ≠ (Value.slice A n c).ownBlock := by
  cases hb : (Value.slice B m d).ownBlock with
  | none => exact .inl rfl
  | some g =>
    right
    intro he
    have h1 := h'.own.lt g hb
    have h2 := h.own.lt g he.symm
    omega
end Go.Proofs.Ytndehfkamfmmeaa
