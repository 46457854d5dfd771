/-
  A slice of numbers that came in as an argument: what it reads as; laws' toIntS.
-/
import Derived.Test.YthbfockobnfomaaInts
import Derived.Test.YthbfockobnfomaaDyck
import Derived.WalkKit
import Derived.ProofKit
import Derived.OpenShut
import Derived.ChangeOld
namespace Go.Proofs.Ythbfockobnfomaa
open Go.RowKit Go.ChangeShapes Go.WideShapes
/-- A slice of len numbers that reads as zs, each fitting its kind. -/
def Row (k : IntKind) (w : World) (A : Option Addr) (len : Nat) (zs : List Int) : Prop :=
  zs.length = len ∧ len ≤ maxLen ∧ (∀ n ∈ zs, (Lit.int k n).wf = true) ∧ Rd k w A zs
theorem cell_at {w : World} {a : Addr} {v : Value} (h : w.cell? a = some v) : a.spot = none ∧ a.block < w.heap.size := by
  unfold World.cell? at h
  split at h
  · rename_i c e f hb
    refine ⟨?_, ?_⟩
    · cases hs : a.spot with
      | none => rfl
      | some x => simp [hs] at h
    · rcases Nat.lt_or_ge a.block w.heap.size with h' | h'
      · exact h'
      · rw [Array.getElem?_eq_none h'] at hb; cases hb
  · cases h
theorem row_open {H : Type} {enc : TypeId × Value → H} {P : Program} {w : World} {base : Nat} {spare : Nat → Bool} {held : Bool} {t e : TypeId} {k : IntKind} {A : Option Addr} {len cap : Nat} {d : DataW H} {p : List MemPlace}
    (ht : P.underlying t = some (.slice e)) (he : P.underlying e = some (.int k)) (hc : P.cellsOf e = 1) (h : DataW.Trod enc P w base spare held t (.slice A len cap) d p) : ∃ zs, Row k w A len zs := by
  obtain ⟨fuel, hf⟩ := h
  rcases open_ints ht he hc hf with ⟨hcs, _⟩ | ⟨x, l, c, zs, hcs, _, hl, hm, hz, _, hcell, hwz⟩
  · simp [Value.cells] at hcs
    obtain ⟨rfl, rfl, rfl⟩ := hcs
    exact ⟨[], rfl, Nat.zero_le _, by simp, Rd.nil_⟩
  · simp [Value.cells] at hcs
    obtain ⟨rfl, rfl, rfl⟩ := hcs
    have hlz : len ≤ zs.length := by rw [hz]; split <;> omega
    have htl : (zs.take len).length = len := by rw [List.length_take]; omega
    refine ⟨zs.take len, htl, by omega, fun n hn => hwz n (List.mem_of_mem_take hn), ?_⟩
    intro i hi
    rw [htl] at hi
    have h1 := hcell i (by omega)
    obtain ⟨b, o, sp⟩ := x
    have hsp : sp = none := (cell_at (hcell 0 (by omega))).1
    subst hsp
    rw [Addr.add_lit] at h1
    refine ⟨b, o, rfl, (cell_at h1).2, ?_⟩
    rw [h1]
    simp [List.getD, hi]

theorem drop_two (zs : List Int) (j : Nat) (h : j + 1 < zs.length) : zs.drop j = zs.getD j 0 :: zs.getD (j + 1) 0 :: zs.drop (j + 2) := by
  rw [List.drop_eq_getElem_cons (by omega), List.drop_eq_getElem_cons h]
  simp [List.getD, h, show j < zs.length by omega]
theorem drop_one (zs : List Int) (j : Nat) (h : j < zs.length) : zs.drop j = zs.getD j 0 :: zs.drop (j + 1) := by
  rw [List.drop_eq_getElem_cons h]
  simp [List.getD, h]
set_option maxRecDepth 100000 in
set_option maxHeartbeats 400000 in
theorem toIntS (A : Option Addr) (n c : Nat) (l : List Int) (w : World) (hl : l.length = n) (ha : Rd .i64 w A l) (hn : n ≤ 1073741824) : Calls Try.prog 23 #[.slice A n c] w (RetI l w) := by
  have HA := Lib.hid ha
  clear ha
  go_enter Try.func23, Try.ntmps23
  go_wp2_with (at_make; refine buf_make elInt (Below.refl w.heap.size w) n (by omega) rfl _ _ rfl _ _ _ _ rfl rfl rfl rfl ?_; intro w1 hB _)
  go_loopw [4] (fun i wr => ∃ j : Nat, j ≤ n ∧ i = .int .i64 (j : Int) ∧ Buf w wr 3 (.slice (some ⟨w.heap.size, 0, none⟩) n n) ((l.take j ++ List.replicate (n - j) 0).map (Value.int .i64))) (fun i _ => n - (intOf i).toNat)
  case atStart => exact ⟨0, by omega, rfl, by simpa using hB⟩
  case round =>
    obtain ⟨j, hj, rfl, hBr⟩ := hrel
    by_cases hlt : j < n
    · obtain ⟨b, o, rfl, hb, hc⟩ := (HA.out.keep hBr.bel) j (by omega)
      obtain ⟨x, hx⟩ : ∃ x, x = l.getD j 0 := ⟨_, rfl⟩
      rw [← hx] at hc
      have hcd := hBr.cellAt j hlt
      have hf := hBr.frozenAt j
      obtain ⟨u, hu⟩ : ∃ u, ((l.take j ++ List.replicate (n - j) 0).map (Value.int .i64))[j]? = some u := ⟨_, List.getElem?_eq_getElem (by simp; omega)⟩
      rw [hu] at hcd
      have hset : ((l.take j ++ List.replicate (n - j) 0).map (Value.int .i64)).set j (.int .i64 x) = (l.take (j + 1) ++ List.replicate (n - (j + 1)) 0).map (Value.int .i64) := by
        have e : l.take (j + 1) = l.take j ++ [x] := by rw [List.take_succ_eq_append_getElem (by omega), hx]; simp [List.getD, show j < l.length by omega]
        rw [show n - j = (n - (j + 1)) + 1 by omega, List.replicate_succ, ← List.map_set, set_mid _ _ _ _ j (by rw [List.length_take]; omega), e]
      have hS := hBr.set j (.int .i64 x)
      rw [hset] at hS
      have HS := Lib.hid hS
      clear hu hset hx hS hBr
      go_wp2
      go_roundw
      case rel => exact ⟨j + 1, by omega, by go_num, HS.out⟩
      case measure => simp [intOf]; omega
    · obtain rfl : j = n := by omega
      rw [Nat.sub_self, List.replicate_zero, List.append_nil, List.take_of_length_le (by omega)] at hBr
      subst hl
      go_wp2
      go_ret
      exact ⟨_, _, rfl, hBr⟩
end Go.Proofs.Ythbfockobnfomaa
