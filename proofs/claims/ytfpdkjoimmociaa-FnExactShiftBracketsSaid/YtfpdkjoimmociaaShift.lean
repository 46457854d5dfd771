/-
  ShiftBrackets of both packages and its law, walked.
-/
import Derived.Test.YtfpdkjoimmociaaPartL
import Derived.Test.YtfpdkjoimmociaaFirst
namespace Go.Proofs.Ytfpdkjoimmociaa
open Go.RowKit
def shiftV (s : ByteArray) (c : Nat) : ByteArray := s.extract 1 c ++ ⟨#[40]⟩ ++ s.extract (c + 1) s.size ++ ⟨#[41]⟩

/-- What a block holds, all of it to be written. -/
structure Cells (w : World) (B : Nat) (L : List Value) : Prop where
  at_ : ∀ i v, L[i]? = some v → w.cell? ⟨B, i, none⟩ = some v
  fr : ∀ i, i < L.length → w.frozen? ⟨B, i, none⟩ = false
  lt : B < w.heap.size
theorem Cells.keep {w w' : World} {B : Nat} {L : List Value} (h : Cells w B L) (hb : Below w.heap.size w w') : Cells w' B L :=
  ⟨fun i v hi => (hb.cell (p := ⟨B, i, none⟩) h.lt).trans (h.at_ i v hi), fun i hi => (hb.frozen (p := ⟨B, i, none⟩) h.lt).trans (h.fr i hi), Nat.lt_of_lt_of_le h.lt hb.size⟩
theorem Cells.bytes (w : World) (s : ByteArray) (K : Nat) (e : TypeId) : Cells (w.alloc (.cells (bytesRow s K) e ((bytesRow s K).size, (bytesRow s K).size + 1))).drew w.heap.size (bytesRow s K).toList := by
  have hh : ∀ o : Obj, (w.alloc o).drew.heap[w.heap.size]? = some o := fun o => heap_alloc_new w o
  refine ⟨?_, ?_, by show _ < (w.alloc _).heap.size; simp⟩
  · intro i v hi
    unfold World.cell?
    rw [hh]
    simpa using hi
  · intro i hi
    unfold World.frozen?
    rw [hh]
    simp at hi ⊢
    omega
theorem Cells.set {w : World} {B : Nat} {L : List Value} (h : Cells w B L) (j : Nat) (u : Value) (hj : j < L.length) : Cells (w.setCell ⟨B, j, none⟩ u) B (L.set j u) := by
  refine ⟨?_, ?_, by simpa [World.setCell] using h.lt⟩
  · intro i v hi
    by_cases hij : i = j
    · subst hij
      rw [List.getElem?_set_self hj] at hi
      obtain rfl := Option.some.inj hi
      exact World.cell?_setCell_same _ _ _ (h.at_ i _ (List.getElem?_eq_getElem hj))
    · rw [List.getElem?_set_ne (fun e => hij e.symm)] at hi
      rw [World.cell?_setCell_other _ _ _ _ (fun e => hij (by cases e; rfl))]
      exact h.at_ i v hi
  · intro i hi
    rw [List.length_set] at hi
    have := h.fr i hi
    simpa using this

set_option maxRecDepth 100000 in
theorem shiftS_none (s : ByteArray) (w : World) (hs : s.size ≤ 1048576) (ho : pobV s.data.toList = none) : Calls Try.prog 74 #[.string s] w fun e w' => e = .returned (.tuple #[.string ByteArray.empty, .bool false]) ∧ Below w.heap.size w w' := by
  have HX := Lib.hid (fun w => pobS s w hs)
  rw [ho] at HX
  unfold strB at HX
  clear ho
  go_enter Try.func74, Try.ntmps74
  go_wp2_with fail
  refine (HX.out _).mono ?_
  rintro e w1 ⟨rfl, hb1⟩
  go_wp2_with fail
  go_ret2
  exact ⟨rfl, hb1⟩
set_option maxRecDepth 100000 in
theorem shiftS_empty (s p : ByteArray) (w : World) (hs : s.size ≤ 1048576) (ho : pobV s.data.toList = some p) (h0 : s.size = 0) : Calls Try.prog 74 #[.string s] w fun e w' => e = .returned (.tuple #[.string ByteArray.empty, .bool true]) ∧ Below w.heap.size w w' := by
  have HX := Lib.hid (fun w => pobS s w hs)
  rw [ho] at HX
  have HX : Hid (∀ w, Calls Try.prog 70 #[.string s] w fun e w' => e = .returned (.tuple #[.string p, .bool true]) ∧ Below w.heap.size w w') := HX
  have hlen : s.data.toList.length = s.size := by simp
  have hne : s.data.toList.isEmpty = true := by rw [List.isEmpty_iff]; exact List.eq_nil_of_length_eq_zero (by omega)
  have hne2 : s.toList.isEmpty = true := by rw [bytes_list]; exact hne
  clear ho hlen h0
  go_enter Try.func74, Try.ntmps74
  go_wp2_with fail
  refine (HX.out _).mono ?_
  rintro e w1 ⟨rfl, hb1⟩
  go_wp2_with fail
  go_ret2
  exact ⟨rfl, hb1⟩
set_option maxRecDepth 100000 in
theorem shiftS_yes (s p : ByteArray) (c : Nat) (w : World) (hs : s.size ≤ 1048576) (ho : pobV s.data.toList = some p) (h0 : 0 < s.size) (hc : cutGo 0 p.data.toList = some c) : Calls Try.prog 74 #[.string s] w fun e w' => e = .returned (.tuple #[.string (shiftV s c), .bool true]) ∧ Below w.heap.size w w' := by
  have HX := Lib.hid (fun w => pobS s w hs)
  have hp16 := pob_size ho
  have hpl := pob_len ho
  have hg := dyck_path (pob_dyck ho)
  have HC := Lib.hid (fun w => l2CutS p c w hp16 hg hc)
  have hcp := cut_pos hg hc
  have hps : p.size = s.size := by rw [hpl]; simp
  have hc1 := hcp.1
  have hc2 : c < s.size := by have := hcp.2; simp at this; omega
  rw [ho] at HX
  have HX : Hid (∀ w, Calls Try.prog 70 #[.string s] w fun e w' => e = .returned (.tuple #[.string p, .bool true]) ∧ Below w.heap.size w w') := HX
  have hlen : s.data.toList.length = s.size := by simp
  have hne : s.data.toList.isEmpty = false := by
    rw [List.isEmpty_eq_false_iff]; intro hd; rw [hd] at hlen; simp at hlen; omega
  have hne2 : s.toList.isEmpty = false := by rw [bytes_list]; exact hne
  have hwr : IntKind.i64.wrap ((c : Int) + 1) = (c : Int) + 1 := by rw [IntKind.wrap_i64]; omega
  have hsz : 0 ≤ IntKind.i64.wrap ((c : Int) + 1) ∧ IntKind.i64.wrap ((c : Int) + 1) ≤ (s.size : Int) := by rw [hwr]; omega
  have hsz2 : (IntKind.i64.wrap ((c : Int) + 1)).toNat = c + 1 := by rw [hwr]; omega
  clear ho hlen hpl hg hc hcp hwr
  go_enter Try.func74, Try.ntmps74
  go_wp2_with fail
  refine (HX.out _).mono ?_
  rintro e w1 ⟨rfl, hb1⟩
  go_wp2_with fail
  refine (HC.out _).mono ?_
  rintro e w2 ⟨rfl, rfl⟩
  go_wp2_with fail
  go_region
  all_goals
    go_wp2_with fail
    go_ret2
    exact ⟨rfl, hb1.drew⟩
theorem row_set (s : ByteArray) (K c : Nat) (h2 : c < s.size) : (bytesRow s K).toList.set c (.int .u8 40) = ((s.data.toList.map fun b => (b.toNat : Int)).set c 40).map (Value.int .u8) ++ List.replicate (K - s.size) (.int .u8 0) := by
  unfold bytesRow
  rw [Array.toList_append, List.set_append_left _ _ (by simpa using h2), List.map_set]
  simp
  rfl
theorem shift_eq (s : ByteArray) (c : Nat) (h1 : 1 ≤ c) (h2 : c < s.size) : strOfNums (((s.data.toList.map fun b => (b.toNat : Int)).set c 40).drop 1 ++ [41]) = shiftV s c := by
  apply ByteArray.ext
  apply Array.toList_inj.mp
  have hl : s.data.toList.length = s.size := by simp
  have hb : ∀ l : List UInt8, (l.map fun b => (b.toNat : Int)).map (fun n => UInt8.ofNat n.toNat) = l := by
    intro l; rw [List.map_map]; conv => rhs; rw [← List.map_id l]
    apply List.map_congr_left; intro x _; simp
  have e1 : (strOfNums (((s.data.toList.map fun b => (b.toNat : Int)).set c 40).drop 1 ++ [41])).data.toList = (s.data.toList.set c 40).drop 1 ++ [41] := by
    simp only [strOfNums, List.map_append, List.map_drop, List.map_set, hb]
    rfl
  rw [e1, List.set_eq_take_append_cons_drop, if_pos (by omega)]
  unfold shiftV
  simp only [ByteArray.data_append, Array.toList_append, Lib.extract_data]
  rw [List.drop_append_of_le_length (by rw [List.length_take]; omega), List.drop_take]
  simp
  rw [List.take_of_length_le (by simp)]

set_option maxRecDepth 100000 in
theorem shiftI_none (s : ByteArray) (w : World) (hs : s.size ≤ 1048576) (ho : pobV s.data.toList = none) : Calls Try.prog 75 #[.string s] w fun e w' => e = .returned (.tuple #[.string ByteArray.empty, .bool false]) ∧ Below w.heap.size w w' := by
  have HX := Lib.hid (fun w => pobI s w hs)
  rw [ho] at HX
  unfold strB at HX
  clear ho
  go_enter Try.func75, Try.ntmps75
  go_wp2_with fail
  refine (HX.out _).mono ?_
  rintro e w1 ⟨rfl, hb1⟩
  go_wp2_with fail
  go_ret2
  exact ⟨rfl, hb1⟩
set_option maxRecDepth 100000 in
theorem shiftI_empty (s p : ByteArray) (w : World) (hs : s.size ≤ 1048576) (ho : pobV s.data.toList = some p) (h0 : s.size = 0) : Calls Try.prog 75 #[.string s] w fun e w' => e = .returned (.tuple #[.string ByteArray.empty, .bool true]) ∧ Below w.heap.size w w' := by
  have HX := Lib.hid (fun w => pobI s w hs)
  rw [ho] at HX
  have HX : Hid (∀ w, Calls Try.prog 71 #[.string s] w fun e w' => e = .returned (.tuple #[.string p, .bool true]) ∧ Below w.heap.size w w') := HX
  have hlen : s.data.toList.length = s.size := by simp
  have hne : s.data.toList.isEmpty = true := by rw [List.isEmpty_iff]; exact List.eq_nil_of_length_eq_zero (by omega)
  have hne2 : s.toList.isEmpty = true := by rw [bytes_list]; exact hne
  clear ho hlen h0
  go_enter Try.func75, Try.ntmps75
  go_wp2_with fail
  refine (HX.out _).mono ?_
  rintro e w1 ⟨rfl, hb1⟩
  go_wp2_with fail
  go_ret2
  exact ⟨rfl, hb1⟩
set_option maxRecDepth 100000 in
theorem shiftI_yes (s p : ByteArray) (c : Nat) (w : World) (hs : s.size ≤ 1048576) (ho : pobV s.data.toList = some p) (h0 : 0 < s.size) (hc : Part p.data.toList 0 c) : Calls Try.prog 75 #[.string s] w fun e w' => e = .returned (.tuple #[.string (shiftV s c), .bool true]) ∧ Below w.heap.size w w' := by
  have HX := Lib.hid (fun w => pobI s w hs)
  have hp16 := pob_size ho
  have hpl := pob_len ho
  have hg := dyck_path (pob_dyck ho)
  have HC := Lib.hid (fun w => partnersI p w hp16 hg)
  have hps : p.size = s.size := by rw [hpl]; simp
  rw [ho] at HX
  have HX : Hid (∀ w, Calls Try.prog 71 #[.string s] w fun e w' => e = .returned (.tuple #[.string p, .bool true]) ∧ Below w.heap.size w w') := HX
  have hlen : s.data.toList.length = s.size := by simp
  have hne : s.data.toList.isEmpty = false := by
    rw [List.isEmpty_eq_false_iff]; intro hd; rw [hd] at hlen; simp at hlen; omega
  have hne2 : s.toList.isEmpty = false := by rw [bytes_list]; exact hne
  have HP := Lib.hid hc
  clear ho hlen hpl hg hc
  go_enter Try.func75, Try.ntmps75
  go_wp2_with fail
  refine (HX.out _).mono ?_
  rintro e w1 ⟨rfl, hb1⟩
  have hcv := run_bytes_of_string (P := Try.prog) w1 9 41 5 s Try.underlying9 elU8.sl Try.underlying5
  obtain ⟨K, hK⟩ : ∃ K, K = grownCap w1 s.size 0 5 := ⟨_, rfl⟩
  have hKs : s.size ≤ K := by rw [hK]; exact grownCap_ge _ _ _ _
  rw [← hK] at hcv
  clear hK
  have hcl := Cells.bytes w1 s K 5
  obtain ⟨W, hW⟩ : ∃ W, W = (w1.alloc (.cells (bytesRow s K) 5 ((bytesRow s K).size, (bytesRow s K).size + 1))).drew := ⟨_, rfl⟩
  go_wp2_with fail
  rw [← hW]
  refine (HC.out _).mono ?_
  rintro e w3 ⟨g, xs, rfl, hB, hxl, hall⟩
  have hc1 : 1 ≤ c ∧ c < s.size := by
    rcases HP.out with h | h
    · have h1 := h.1; have h2 := h.2.1; simp at h2; omega
    · have := h.1; omega
  have hc11 := hc1.1
  have hc12 := hc1.2
  have hcell : w3.cell? ⟨g, 0, none⟩ = some (.int .i64 (c : Int)) := by
    obtain ⟨d, _, h2, h3⟩ := hall 0 (by simp; omega)
    rw [hB.cellAt 0 (by omega), vi_get _ _ _ h3, part_one h2 HP.out]
  have hcl3 : Cells w3 w1.heap.size (bytesRow s K).toList := by
    rw [hW] at hB; exact hcl.keep hB.bel
  have hbel : Below w.heap.size w w3 := below_then hb1 (below_then (by rw [hW]; exact ((Below.refl _ w1).alloc (Nat.le_refl _) _).drew) hB.bel)
  have hrl : (bytesRow s K).toList.length = K := by simp [bytesRow]; omega
  obtain ⟨B, hBB⟩ : ∃ B, B = w1.heap.size := ⟨_, rfl⟩
  have hwB : w.heap.size ≤ B := by rw [hBB]; exact hb1.size
  rw [← hBB] at hcl3
  obtain ⟨u, hu⟩ : ∃ u, w3.cell? ⟨B, c, none⟩ = some u := ⟨_, hcl3.at_ c _ (List.getElem?_eq_getElem (by omega))⟩
  have hf := hcl3.fr c (by omega)
  rw [← hBB] at *
  have hps0 : 0 < p.size := by omega
  clear hall hxl hc1 hcv hcl hW HC HX
  have hcl4 := (hcl3.set c (.int .u8 40) (by omega)).keep ((Below.refl _ (w3.setCell ⟨B, c, none⟩ (.int .u8 40))).alloc (Nat.le_refl _) (.cells #[.int .u8 41] 5))
  obtain ⟨L2, hL2⟩ : ∃ L2 : List Int, L2 = ((s.data.toList.map fun b => (b.toNat : Int)).set c 40).drop 1 := ⟨_, rfl⟩
  have hl2 : L2.length = s.size - 1 := by rw [hL2]; simp
  obtain ⟨ti, hti, hz0, hz1, hz2⟩ := info_parts elU8.info
  have hold : ∀ j u, (L2.map (Value.int .u8))[j]? = some u → ((w3.setCell ⟨B, c, none⟩ (.int .u8 40)).alloc (.cells #[.int .u8 41] 5)).cell? ⟨B, 1 + j, none⟩ = some u := by
    intro j u hj
    refine hcl4.at_ _ _ ?_
    have hjl : j < L2.length := by
      rcases Nat.lt_or_ge j L2.length with h | h
      · exact h
      · rw [List.getElem?_eq_none (by simpa using h)] at hj; cases hj
    rw [row_set s K c hc12, List.getElem?_append_left (by simp; omega)]
    rw [hL2, List.getElem?_map, List.getElem?_drop] at hj
    rw [List.getElem?_map]; exact hj
  have hnew : ((w3.setCell ⟨B, c, none⟩ (.int .u8 40)).alloc (.cells #[.int .u8 41] 5)).cell? ⟨w3.heap.size, 0, none⟩ = some (.int .u8 41) := by
    have hz : (w3.setCell ⟨B, c, none⟩ (.int .u8 40)).heap.size = w3.heap.size := by simp [World.setCell]
    rw [← hz]; unfold World.cell?; rw [heap_alloc_new]; rfl
  have HL2 := Lib.hid hL2
  have hs16 : s.size ≤ 16 := by omega
  clear hL2
  go_wp2_with (at_builtin; go_must (refine wpList_append_arg _ rfl _ _ 41 rfl 5 ti (.int .u8 0) 1 1 elU8.sl hti hz0 hz1 hz2 (by rfl) (by decide) B 1 (s.size - 1) (K - 1) (L2.map (Value.int .u8)) rfl ?lo ?olds ⟨w3.heap.size, 0, none⟩ 1 1 [.int .u8 41] rfl rfl ?c1 ?c2 ?spare ?maxLen ?bytes ?room ?grow))
  case lo => rw [List.length_map, hl2, Nat.mul_one]
  case olds => exact hold
  case c1 =>
    intro j u hj
    rcases j with _ | j
    · simp at hj; subst hj; exact hnew
    · simp at hj
  case c2 => intro u hu; simp at hu; subst hu; rfl
  case spare =>
    intro hr j hj
    have hj0 : j = 0 := by simpa using hj
    subst hj0
    have hlt : 1 + (s.size - 1) * 1 + 0 < ((bytesRow s K).toList.set c (Value.int .u8 40)).length := by rw [List.length_set]; omega
    refine ⟨?_, hcl4.fr _ hlt⟩
    rw [hcl4.at_ _ _ (List.getElem?_eq_getElem hlt)]; rfl
  case maxLen => unfold maxLen; omega
  case bytes => omega
  case room =>
    intro hr
    have hcl5 := hcl4.set (1 + (s.size - 1) * 1) (.int .u8 41) (by rw [List.length_set]; omega)
    have hcells : ∀ i, i < s.size - 1 + 1 → (((w3.setCell ⟨B, c, none⟩ (.int .u8 40)).alloc (.cells #[.int .u8 41] 5)).setCells B (1 + (s.size - 1) * 1) [.int .u8 41]).cell? ⟨B, 1 + i, none⟩ = some (.int .u8 ((L2 ++ [41]).getD i 0)) := by
      intro i hi
      refine hcl5.at_ _ _ ?_
      by_cases hie : i = s.size - 1
      · subst hie
        rw [show 1 + (s.size - 1) * 1 = 1 + (s.size - 1) by omega, List.getElem?_set_self (by rw [List.length_set]; omega)]
        simp [List.getD, ← hl2]
      · rw [List.getElem?_set_ne (by omega), row_set s K c hc12, List.getElem?_append_left (by simp; omega), List.getElem?_map]
        have e : (L2 ++ [41])[i]? = ((s.data.toList.map fun b => (b.toNat : Int)).set c 40)[1 + i]? := by
          rw [List.getElem?_append_left (by omega), HL2.out, List.getElem?_drop]
        rw [← e]
        have hil : i < (L2 ++ [41]).length := by simp; omega
        simp only [List.getD, List.getElem?_eq_getElem hil, Option.map_some, Option.getD_some]
    have hcv := run_convert_bytes_arg (P := Try.prog) (w := ((w3.setCell ⟨B, c, none⟩ (.int .u8 40)).alloc (.cells #[.int .u8 41] 5)).setCells B (1 + (s.size - 1) * 1) [.int .u8 41]) 41 5 elU8.sl Try.underlying5 B 1 (s.size - 1 + 1) (K - 1) (L2 ++ [41]) (by simp; omega) hcells 9 Try.underlying9
    have hres : Hid (strOfNums (L2 ++ [41]) = shiftV s c) := by show _ = _; rw [HL2.out]; exact shift_eq s c hc11 hc12
    have hb5 : Below w.heap.size w (((w3.setCell ⟨B, c, none⟩ (.int .u8 40)).alloc (.cells #[.int .u8 41] 5)).setCells B (1 + (s.size - 1) * 1) [.int .u8 41]) := by
      have h1 := hbel.setCell (p := ⟨B, c, none⟩) hwB (.int .u8 40)
      exact (h1.alloc h1.size _).setCell (p := ⟨B, 1 + (s.size - 1) * 1, none⟩) hwB _
    rw [hres.out] at hcv
    simp only [Nat.mul_one] at hcv hb5
    clear hcells hcl5
    go_wp2_with fail
    go_ret2
    exact ⟨rfl, hb5⟩
  case grow =>
    intro hr v' w' hown hgrow
    have h1 := hbel.setCell (p := ⟨B, c, none⟩) hwB (.int .u8 40)
    have h2 := h1.alloc h1.size (.cells #[.int .u8 41] 5)
    have hb5 : Below w.heap.size w w' := h2.grown hgrow h2.size (fun _ h => by cases h)
    have hBf : Buf ((w3.setCell ⟨B, c, none⟩ (.int .u8 40)).alloc (.cells #[.int .u8 41] 5)) w' 5 v' ((L2 ++ [41]).map (Value.int .u8)) := by
      refine ⟨?_, (Below.refl _ _).grown hgrow (Nat.le_refl _) (fun _ h => by cases h)⟩
      have hn : ((L2 ++ [41]).map (Value.int .u8)).length = s.size - 1 + 1 := by simp; omega
      rw [hn, List.map_append]
      simpa using hown
    have hcv := buf_string (t := 41) (d := 9) elU8.sl Try.underlying5 Try.underlying9 hBf
    have hres : Hid (strOfNums (L2 ++ [41]) = shiftV s c) := by show _ = _; rw [HL2.out]; exact shift_eq s c hc11 hc12
    rw [hres.out] at hcv
    go_wp2_with fail
    go_ret2
    exact ⟨rfl, hb5⟩
theorem drop_at (l : List UInt8) (k : Nat) (h : k < l.length) : l.drop k = l.getD k 0 :: l.drop (k + 1) := by
  rw [List.drop_eq_getElem_cons h]
  simp [List.getD, h]
theorem cut_pair_go (l : List UInt8) : ∀ (i k h : Nat), 1 ≤ h → H l k = h → cutGo h (l.drop k) = some i → H l (k + i + 1) = 0 ∧ ∀ m, k < m → m ≤ k + i → 0 < H l m := by
  intro i
  induction i with
  | zero =>
    intro k h h1 hH hc
    rcases Nat.lt_or_ge k l.length with hk | hk
    · rw [drop_at l k hk] at hc
      unfold cutGo at hc
      by_cases hu : l.getD k 0 = 117
      · rw [if_pos hu] at hc
        obtain ⟨j, _, hj⟩ := Option.map_eq_some_iff.mp hc; omega
      · rw [if_neg hu] at hc
        by_cases hh : h = 1
        · refine ⟨by rw [Nat.add_zero, H_down l k hu]; omega, by intro m hm1 hm2; omega⟩
        · rw [if_neg hh] at hc
          obtain ⟨j, _, hj⟩ := Option.map_eq_some_iff.mp hc; omega
    · rw [List.drop_of_length_le hk] at hc; cases hc
  | succ i ih =>
    intro k h h1 hH hc
    rcases Nat.lt_or_ge k l.length with hk | hk
    · rw [drop_at l k hk] at hc
      unfold cutGo at hc
      have fin : ∀ h' : Nat, 1 ≤ h' → H l (k + 1) = h' → cutGo h' (l.drop (k + 1)) = some i → H l (k + (i + 1) + 1) = 0 ∧ ∀ m, k < m → m ≤ k + (i + 1) → 0 < H l m := by
        intro h' a1 a2 a3
        obtain ⟨b1, b2⟩ := ih (k + 1) h' a1 a2 a3
        refine ⟨by rw [show k + (i + 1) + 1 = k + 1 + i + 1 by omega]; exact b1, ?_⟩
        intro m hm1 hm2
        rcases Nat.lt_or_ge (k + 1) m with hlt | hge
        · exact b2 m hlt (by omega)
        · obtain rfl : m = k + 1 := by omega
          omega
      by_cases hu : l.getD k 0 = 117
      · rw [if_pos hu] at hc
        obtain ⟨j, hj1, hj⟩ := Option.map_eq_some_iff.mp hc
        obtain rfl : j = i := by omega
        exact fin (h + 1) (by omega) (by rw [H_up l k hu]; omega) hj1
      · rw [if_neg hu] at hc
        by_cases hh : h = 1
        · rw [if_pos hh] at hc; cases hc
        · rw [if_neg hh] at hc
          obtain ⟨j, hj1, hj⟩ := Option.map_eq_some_iff.mp hc
          obtain rfl : j = i := by omega
          exact fin (h - 1) (by omega) (by rw [H_down l k hu]; omega) hj1
    · rw [List.drop_of_length_le hk] at hc; cases hc
theorem cut_pair (l : List UInt8) (c : Nat) (hg : hgo 0 l = some 0) (hc : cutGo 0 l = some c) : Pair l 0 c := by
  have hp := cut_pos hg hc
  have hl : 0 < l.length := by omega
  have hd := drop_at l 0 hl
  rw [List.drop_zero] at hd
  have hu : l.getD 0 0 = 117 := by
    rw [hd] at hg
    rcases hgo_letters hg (l.getD 0 0) (by simp) with h | h
    · exact h
    · rw [h, hgo_d0] at hg; cases hg
  have hc2 := hc
  rw [hd, hu] at hc2
  unfold cutGo at hc2
  rw [if_pos rfl] at hc2
  obtain ⟨j, hj1, hj⟩ := Option.map_eq_some_iff.mp hc2
  obtain ⟨b1, b2⟩ := cut_pair_go l j 1 1 (by omega) (by rw [H_up l 0 hu]; rfl) hj1
  refine ⟨by omega, hp.2, by rw [show c + 1 = 1 + j + 1 by omega, b1]; rfl, ?_⟩
  intro k hk1 hk2
  show (0 : Int) < _
  rcases Nat.lt_or_ge 1 k with hlt | hge
  · exact b2 k hlt (by omega)
  · obtain rfl : k = 1 := by omega
    rw [H_up l 0 hu]; show (0 : Int) < 0 + 1; omega
set_option maxRecDepth 100000 in
theorem law_FnExactShiftBrackets (s : ByteArray) (w : World) (hs : s.size ≤ maxLen) : Calls Try.prog 22 #[.string s] w fun e w' => e = .returned (.bool true) ∧ Below w.heap.size w w' := by
  unfold maxLen at hs
  by_cases hb : s.size ≤ 1048576
  · have both : ∃ (o : ByteArray) (b : Bool), (∀ w, Calls Try.prog 74 #[.string s] w fun e w' => e = .returned (.tuple #[.string o, .bool b]) ∧ Below w.heap.size w w') ∧ (∀ w, Calls Try.prog 75 #[.string s] w fun e w' => e = .returned (.tuple #[.string o, .bool b]) ∧ Below w.heap.size w w') := by
      cases ho : pobV s.data.toList with
      | none => exact ⟨_, _, fun w => shiftS_none s w hb ho, fun w => shiftI_none s w hb ho⟩
      | some p =>
        by_cases h0 : s.size = 0
        · exact ⟨_, _, fun w => shiftS_empty s p w hb ho h0, fun w => shiftI_empty s p w hb ho h0⟩
        · have hg := dyck_path (pob_dyck ho)
          have hlen := pob_len ho
          have hne : p.data.toList ≠ [] := by
            intro hc
            have : p.data.toList.length = p.size := by simp
            rw [hc] at this; simp at this hlen; omega
          obtain ⟨c, hc⟩ := cut_exists hg hne
          exact ⟨_, _, fun w => shiftS_yes s p c w hb ho (by omega) hc, fun w => shiftI_yes s p c w hb ho (by omega) (.inl (cut_pair _ c hg hc))⟩
    obtain ⟨o, b, h1, h2⟩ := both
    have HS := Lib.hid h1
    have HI := Lib.hid h2
    clear h1 h2
    go_enter Try.func22, Try.ntmps22
    go_wp2_with fail
    refine (HS.out _).mono ?_
    rintro e w1 ⟨rfl, h1⟩
    go_wp2_with fail
    refine (HI.out _).mono ?_
    rintro e w2 ⟨rfl, h2⟩
    go_wp2_with fail
    go_ret
    exact ⟨rfl, below_then h1 h2⟩
  · go_enter Try.func22, Try.ntmps22
    go_wp2
    go_ret
    exact ⟨rfl, Below.refl _ _⟩
end Go.Proofs.Ytfpdkjoimmociaa
