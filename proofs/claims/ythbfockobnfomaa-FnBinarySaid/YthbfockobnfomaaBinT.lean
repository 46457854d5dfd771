/-
  Trees of the program's own in memory (impl.tree), and its methods nodes, text, path, mirror, levels, walked.
-/
import Derived.Test.YthbfockobnfomaaBinP
import Derived.Test.YthbfockobnfomaaBsP
import Derived.Test.YthbfockobnfomaaEl
import Derived.Test.YthbfockobnfomaaInts
import Derived.Deep.RegionHeld3
import Derived.Deep.TreeCalls
namespace Go.Proofs.Ythbfockobnfomaa
open Go.RowKit
open Go.Deep
/-- The value v is a pointer to the tree t. -/
def TreeAt (w : World) : Value → Tr → Prop
  | v, .lf => v = .pointer none
  | v, .nd l r => ∃ b a c, v = .pointer (some ⟨b, 0, none⟩) ∧ b < w.heap.size ∧ w.cell? ⟨b, 0, none⟩ = some a ∧ w.cell? ⟨b, 1, none⟩ = some c ∧ TreeAt w a l ∧ TreeAt w c r
theorem TreeAt.keep {w w' : World} (hb : Below w.heap.size w w') : ∀ {t : Tr} {v : Value}, TreeAt w v t → TreeAt w' v t := by
  intro t
  induction t with
  | lf => intro v h; exact h
  | nd l r hl hr =>
    intro v h
    obtain ⟨b, a, c, hv, hlt, h0, h1, h2, h3⟩ := h
    exact ⟨b, a, c, hv, Nat.lt_of_lt_of_le hlt hb.size, (hb.cell (p := ⟨b, 0, none⟩) hlt).trans h0, (hb.cell (p := ⟨b, 1, none⟩) hlt).trans h1, hl h2, hr h3⟩
theorem TreeAt.form {w : World} {v : Value} {t : Tr} (h : TreeAt w v t) : ∃ p, v = .pointer p := by
  cases t with
  | lf => exact ⟨_, h⟩
  | nd l r => obtain ⟨b, a, c, hv, _⟩ := h; exact ⟨_, hv⟩
theorem TreeAt.drewN {w : World} {v : Value} {t : Tr} (h : TreeAt w v t) (n : Nat) : TreeAt (w.drewN n) v t := h.keep (below_drewN (Below.refl _ _) n)
theorem TreeAt.node {w : World} {T : TypeId} {a c : Value} {l r : Tr} (ha : TreeAt w a l) (hc : TreeAt w c r) : TreeAt (w.alloc (.cells #[a, c] T)) (.pointer (some ⟨w.heap.size, 0, none⟩)) (.nd l r) := by
  have hb : Below w.heap.size w (w.alloc (.cells #[a, c] T)) := (Below.refl _ _).alloc (Nat.le_refl _) _
  refine ⟨w.heap.size, a, c, rfl, by simp, ?_, ?_, ha.keep hb, hc.keep hb⟩
  · unfold World.cell?; rw [heap_alloc_new]; rfl
  · unfold World.cell?; rw [heap_alloc_new]; rfl
/-- What a function that hands back a tree hands back. -/
def RetT (t : Tr) (w : World) (e : Ending) (w' : World) : Prop := ∃ v, e = .returned v ∧ TreeAt w' v t ∧ Below w.heap.size w w'

set_option maxRecDepth 100000 in
set_option maxHeartbeats 1000000 in
theorem nodesT (t : Tr) (hn : t.nodes ≤ 1000000) : ∀ (w : World) (v : Value), TreeAt w v t → Calls Try.prog 57 #[v] w fun e w' => e = .returned (.int .i64 (t.nodes : Int)) ∧ ∃ n, w' = w.drewN n := by
  induction t with
  | lf =>
    intro w v h
    obtain rfl : v = .pointer none := h
    go_enter Try.func57, Try.ntmps57
    go_wp2
    go_ret
    exact ⟨rfl, 0, rfl⟩
  | nd l r ihl ihr =>
    intro w v h
    obtain ⟨b, a, c, rfl, hlt, h0, h1, ha, hc⟩ := h
    simp only [Tr.nodes] at hn
    have HA := Lib.hid (fun n => ihl (by omega) (w.drewN n) a (ha.drewN n))
    have HC := Lib.hid (fun n => ihr (by omega) (w.drewN n) c (hc.drewN n))
    have k1 : IntKind.i64.wrap ((l.nodes : Int) + r.nodes) = (l.nodes : Int) + r.nodes := IntWalk.i64_in _ ⟨by omega, by omega⟩
    have k2 : IntKind.i64.wrap ((l.nodes : Int) + r.nodes + 1) = (l.nodes : Int) + r.nodes + 1 := IntWalk.i64_in _ ⟨by omega, by omega⟩
    have HK : Hid (((Tr.nd l r).nodes : Int) = (l.nodes : Int) + r.nodes + 1) := by show _ = _; simp only [Tr.nodes]; omega
    clear ihl ihr ha hc
    go_enter Try.func57, Try.ntmps57
    go_wp2_with fail
    go_quiet (first
      | (go_at_call_of 57 a; exact Calls.quiet_of (HA.out _))
      | (go_at_call_of 57 c; exact Calls.quiet_of (HC.out _)))
    go_wp2_with fail
    go_ret
    exact ⟨by rw [HK.out]; rfl, nq, rfl⟩
theorem toB_par (l r : List UInt8) : (⟨#[40]⟩ : ByteArray) ++ toB l ++ toB r ++ ⟨#[41]⟩ = toB (40 :: (l ++ (r ++ [41]))) := by
  apply ByteArray.ext
  simp [toB, ByteArray.data_append]
theorem toB_ud (l r : List UInt8) : (⟨#[117]⟩ : ByteArray) ++ toB l ++ ⟨#[100]⟩ ++ toB r = toB (117 :: (l ++ 100 :: r)) := by
  apply ByteArray.ext
  simp [toB, ByteArray.data_append]

set_option maxRecDepth 100000 in
set_option maxHeartbeats 1000000 in
theorem textT (t : Tr) (hn : t.nodes ≤ 1000) : ∀ (w : World) (v : Value), TreeAt w v t → Calls Try.prog 58 #[v] w fun e w' => e = .returned (.string (toB t.txt)) ∧ ∃ n, w' = w.drewN n := by
  induction t with
  | lf =>
    intro w v h
    obtain rfl : v = .pointer none := h
    go_enter Try.func58, Try.ntmps58
    go_wp2
    go_ret
    exact ⟨rfl, 0, rfl⟩
  | nd l r ihl ihr =>
    intro w v h
    obtain ⟨b, a, c, rfl, hlt, h0, h1, ha, hc⟩ := h
    simp only [Tr.nodes] at hn
    have HA := Lib.hid (fun n => ihl (by omega) (w.drewN n) a (ha.drewN n))
    have HC := Lib.hid (fun n => ihr (by omega) (w.drewN n) c (hc.drewN n))
    have HT := Lib.hid (toB_par l.txt r.txt)
    have s1 : (toB l.txt).size ≤ 3001 := by rw [toB_size, len_txt]; omega
    have s2 : (toB r.txt).size ≤ 3001 := by rw [toB_size, len_txt]; omega
    have HV : Hid (toB (Tr.nd l r).txt = toB (40 :: (l.txt ++ (r.txt ++ [41])))) := rfl
    obtain ⟨x, hx⟩ : ∃ x, x = toB l.txt := ⟨_, rfl⟩
    obtain ⟨y, hy⟩ : ∃ y, y = toB r.txt := ⟨_, rfl⟩
    rw [← hx] at HA HT s1
    rw [← hy] at HC HT s2
    have p1 : (⟨#[40]⟩ : ByteArray).size ≤ 1 := Nat.le_refl _
    have p2 : (⟨#[41]⟩ : ByteArray).size ≤ 1 := Nat.le_refl _
    have s3 : (⟨#[40]⟩ ++ x : ByteArray).size ≤ 3002 := by rw [ByteArray.size_append]; omega
    have s4 : (⟨#[40]⟩ ++ x ++ y : ByteArray).size ≤ 6003 := by rw [ByteArray.size_append]; omega
    clear ihl ihr ha hc hx hy
    go_enter Try.func58, Try.ntmps58
    go_wp2_with fail
    go_quiet (first
      | (go_at_call_of 58 a; exact Calls.quiet_of (HA.out _))
      | (go_at_call_of 58 c; exact Calls.quiet_of (HC.out _)))
    go_wp2_with fail
    go_ret
    exact ⟨by rw [HV.out, ← HT.out]; rfl, nq, rfl⟩
set_option maxRecDepth 100000 in
set_option maxHeartbeats 1000000 in
theorem pathT (t : Tr) (hn : t.nodes ≤ 1000) : ∀ (w : World) (v : Value), TreeAt w v t → Calls Try.prog 64 #[v] w fun e w' => e = .returned (.string (toB t.path)) ∧ ∃ n, w' = w.drewN n := by
  induction t with
  | lf =>
    intro w v h
    obtain rfl : v = .pointer none := h
    go_enter Try.func64, Try.ntmps64
    go_wp2
    go_ret
    exact ⟨rfl, 0, rfl⟩
  | nd l r ihl ihr =>
    intro w v h
    obtain ⟨b, a, c, rfl, hlt, h0, h1, ha, hc⟩ := h
    simp only [Tr.nodes] at hn
    have HA := Lib.hid (fun n => ihl (by omega) (w.drewN n) a (ha.drewN n))
    have HC := Lib.hid (fun n => ihr (by omega) (w.drewN n) c (hc.drewN n))
    have HT := Lib.hid (toB_ud l.path r.path)
    have s1 : (toB l.path).size ≤ 3001 := by rw [toB_size, len_path]; omega
    have s2 : (toB r.path).size ≤ 3001 := by rw [toB_size, len_path]; omega
    have HV : Hid (toB (Tr.nd l r).path = toB (117 :: (l.path ++ 100 :: r.path))) := rfl
    obtain ⟨x, hx⟩ : ∃ x, x = toB l.path := ⟨_, rfl⟩
    obtain ⟨y, hy⟩ : ∃ y, y = toB r.path := ⟨_, rfl⟩
    rw [← hx] at HA HT s1
    rw [← hy] at HC HT s2
    have p1 : (⟨#[117]⟩ : ByteArray).size ≤ 1 := Nat.le_refl _
    have p2 : (⟨#[100]⟩ : ByteArray).size ≤ 1 := Nat.le_refl _
    have s3 : (⟨#[117]⟩ ++ x : ByteArray).size ≤ 3002 := by rw [ByteArray.size_append]; omega
    have s4 : (⟨#[117]⟩ ++ x ++ ⟨#[100]⟩ : ByteArray).size ≤ 6003 := by rw [ByteArray.size_append]; omega
    clear ihl ihr ha hc hx hy
    go_enter Try.func64, Try.ntmps64
    go_wp2_with fail
    go_quiet (first
      | (go_at_call_of 64 a; exact Calls.quiet_of (HA.out _))
      | (go_at_call_of 64 c; exact Calls.quiet_of (HC.out _)))
    go_wp2_with fail
    go_ret
    exact ⟨by rw [HV.out, ← HT.out]; rfl, nq, rfl⟩
set_option maxRecDepth 100000 in
set_option maxHeartbeats 1000000 in
theorem mirrorT (t : Tr) : ∀ (w : World) (v : Value), TreeAt w v t → Calls Try.prog 66 #[v] w (RetT t.mir w) := by
  induction t with
  | lf =>
    intro w v h
    obtain rfl : v = .pointer none := h
    go_enter Try.func66, Try.ntmps66
    go_wp2
    go_ret
    exact ⟨_, rfl, rfl, Below.refl _ _⟩
  | nd l r ihl ihr =>
    intro w v h
    obtain ⟨b, a, c, rfl, hlt, h0, h1, ha, hc⟩ := h
    have HA := Lib.hid (fun w' (hb : Below w.heap.size w w') => ihl w' a (ha.keep hb))
    have HC := Lib.hid (fun w' (hb : Below w.heap.size w w') => ihr w' c (hc.keep hb))
    clear ihl ihr ha hc
    go_enter Try.func66, Try.ntmps66
    go_wp2_with fail
    go_region_held3 (fun w' => w'.cell? ⟨b, 0, none⟩ = some a ∧ w'.cell? ⟨b, 1, none⟩ = some c)
      (first | go_keep)
      (first
        | (go_at_call_of 66 c; refine (HC.out _ (by first | exact Below.refl _ _ | exact (Below.refl _ _).drew | exact below_drewN (Below.refl _ _) _)).mono ?_; rintro e w1 ⟨v1, rfl, ht1, hb1⟩; obtain ⟨p1, rfl⟩ := ht1.form; have hlt1 : b < w1.heap.size := Nat.lt_of_lt_of_le hlt hb1.size; have q0 : w1.cell? ⟨b, 0, none⟩ = some a := (hb1.cell (p := ⟨b, 0, none⟩) hlt).trans (by simpa using h0); have q1 : w1.cell? ⟨b, 1, none⟩ = some c := (hb1.cell (p := ⟨b, 1, none⟩) hlt).trans (by simpa using h1))
        | (go_at_call_of 66 a; refine (HA.out _ (by first | exact hb1 | exact below_then (Below.refl _ _).drew hb1 | exact below_then (below_drewN (Below.refl _ _) _) hb1)).mono ?_; rintro e w2 ⟨v2, rfl, ht2, hb2⟩; obtain ⟨p2, rfl⟩ := ht2.form; have r0 : w2.cell? ⟨b, 0, none⟩ = some a := (hb2.cell (p := ⟨b, 0, none⟩) hlt1).trans q0; have r1 : w2.cell? ⟨b, 1, none⟩ = some c := (hb2.cell (p := ⟨b, 1, none⟩) hlt1).trans q1))
    have hbw : Below w.heap.size w w1 := by first | exact hb1 | exact below_then (Below.refl _ _).drew hb1 | exact below_then (below_drewN (Below.refl _ _) _) hb1
    have hbz := below_then hbw hb2
    have hT : TreeAt (w2.alloc (.cells #[.pointer p1, .pointer p2] 52)) (.pointer (some ⟨w2.heap.size, 0, none⟩)) (Tr.nd l r).mir := (ht1.keep hb2).node ht2
    have HT := Lib.hid hT
    have HB := Lib.hid (hbz.alloc hbz.size (.cells #[.pointer p1, .pointer p2] 52))
    clear hT hbw hbz hb1 hb2 ht1 ht2 q0 q1 r0 r1 h0 h1
    go_wp2
    go_ret
    exact ⟨_, rfl, HT.out, HB.out⟩
set_option maxRecDepth 100000 in
set_option maxHeartbeats 1000000 in
theorem levelsT (t : Tr) : ∀ (w0 w : World) (v o : Value) (d : Nat) (xs : List Int), TreeAt w0 v t → Buf w0 w 3 o (xs.map (Value.int .i64)) → xs.length + t.nodes ≤ 1000 → d + t.nodes ≤ 1000 →
    Calls Try.prog 71 #[v, .int .i64 (d : Int), o] w fun e w' => ∃ v', e = .returned v' ∧ Buf w0 w' 3 v' ((xs ++ t.lev d).map (Value.int .i64)) := by
  induction t with
  | lf =>
    intro w0 w v o d xs h hB hx hd
    obtain rfl : v = .pointer none := h
    have hxl : (xs.map (Value.int .i64)).length ≤ 1000 := by simp at hx ⊢; omega
    go_enter Try.func71, Try.ntmps71
    go_wp2_with (at_builtin; refine buf_append1 elInt rfl _ _ rfl hB rfl rfl rfl (by omega) ?_; intro v2 w2 hB2 _ _)
    go_ret
    exact ⟨_, rfl, by show Buf _ _ _ _ ((xs ++ [(d : Int)]).map _); rw [List.map_append]; exact hB2⟩
  | nd l r ihl ihr =>
    intro w0 w v o d xs h hB hx hd
    obtain ⟨b, a, c, rfl, hlt, h0, h1, ha, hc⟩ := h
    simp only [Tr.nodes] at hx hd
    have HA := Lib.hid (fun w o xs (hB : Buf w0 w 3 o (xs.map (Value.int .i64))) (hx : xs.length + l.nodes ≤ 1000) => ihl w0 w a o (d + 1) xs ha hB hx (by omega))
    have HC := Lib.hid (fun w o xs (hB : Buf w0 w 3 o (xs.map (Value.int .i64))) (hx : xs.length + r.nodes ≤ 1000) => ihr w0 w c o (d + 1) xs hc hB hx (by omega))
    have hkl : (xs ++ l.lev (d + 1)).length + r.nodes ≤ 1000 := by rw [List.length_append, len_lev]; omega
    have q0 : w.cell? ⟨b, 0, none⟩ = some a := (hB.bel.cell (p := ⟨b, 0, none⟩) hlt).trans h0
    have q1 : w.cell? ⟨b, 1, none⟩ = some c := (hB.bel.cell (p := ⟨b, 1, none⟩) hlt).trans h1
    have k1 : IntKind.i64.wrap ((d : Int) + 1) = ((d + 1 : Nat) : Int) := by rw [show ((d + 1 : Nat) : Int) = (d : Int) + 1 by omega]; exact IntWalk.i64_in _ ⟨by omega, by omega⟩
    have HX := Lib.hid hx
    clear ihl ihr ha hc hx hd
    go_enter Try.func71, Try.ntmps71
    go_wp2_with fail
    go_region_held3 (fun w' => w'.cell? ⟨b, 0, none⟩ = some a ∧ w'.cell? ⟨b, 1, none⟩ = some c)
      (first | go_keep)
      (first
        | (go_at_call_of 71 a; (try rw [k1]); refine (HA.out _ _ xs (by first | exact hB | exact hB.drew | exact hB.drewN _) (by have := HX.out; omega)).mono ?_; rintro e w1 ⟨v1, rfl, hB1⟩; have r0 : w1.cell? ⟨b, 0, none⟩ = some a := (hB1.bel.cell (p := ⟨b, 0, none⟩) hlt).trans h0; have r1 : w1.cell? ⟨b, 1, none⟩ = some c := (hB1.bel.cell (p := ⟨b, 1, none⟩) hlt).trans h1)
        | (go_at_call_of 71 c; (try rw [k1]); refine (HC.out _ _ _ (by first | exact hB1 | exact hB1.drew | exact hB1.drewN _) hkl).mono ?_; rintro e w2 ⟨v2, rfl, hB2⟩; have s0 : w2.cell? ⟨b, 0, none⟩ = some a := (hB2.bel.cell (p := ⟨b, 0, none⟩) hlt).trans h0; have s1 : w2.cell? ⟨b, 1, none⟩ = some c := (hB2.bel.cell (p := ⟨b, 1, none⟩) hlt).trans h1))
    have HZ : Hid (Buf w0 w2 3 v2 ((xs ++ (Tr.nd l r).lev d).map (Value.int .i64))) := by
      show Buf _ _ _ _ _
      simp only [Tr.lev]; rw [← List.append_assoc]; exact hB2
    clear hB1 hB2 r0 r1 s0 s1 q0 q1 h0 h1
    go_wp2
    go_ret
    exact ⟨_, rfl, HZ.out⟩
end Go.Proofs.Ythbfockobnfomaa
