/-
  BinaryOfTriangles of both packages and its law, walked.
-/
import Derived.Test.YthbfockobnfomaaEars
import Derived.Test.YthbfockobnfomaaBinT
namespace Go.Proofs.Ythbfockobnfomaa
open Go.RowKit
/-- Two corners are joined. -/
def edR (a b : Nat) (x : List Int) : Bool := (x.getD 0 0 == (a : Int)) && (x.getD 1 0 == (b : Int))
def ed (zss : List (List Int)) (a b : Nat) : Bool := decide (b = a + 1) || zss.any (edR a b)
/-- The first corner from m on that is joined to l and r. -/
def third (E : Nat → Nat → Bool) (l r : Nat) : Nat → Nat → Option Nat
  | 0, _ => none
  | k + 1, m => if (E l m && E m r) = true then some m else third E l r k (m + 1)
def ttv (E : Nat → Nat → Bool) : Nat → Nat → Nat → Tr
  | 0, _, _ => .lf
  | f + 1, l, r => match third E l r (r - (l + 1)) (l + 1) with
    | none => .lf
    | some m => .nd (ttv E f l m) (ttv E f m r)
theorem third_in {E : Nat → Nat → Bool} {l r : Nat} : ∀ (k m x : Nat), third E l r k m = some x → m ≤ x ∧ x < m + k := by
  intro k
  induction k with
  | zero => intro m x h; cases h
  | succ k ih =>
    intro m x h
    simp only [third] at h
    split at h
    · injection h with h; omega
    · have := ih _ _ h; omega
theorem ttv_nodes (E : Nat → Nat → Bool) : ∀ (f l r : Nat), (ttv E f l r).nodes ≤ r - (l + 1) := by
  intro f
  induction f with
  | zero => intro l r; exact Nat.zero_le _
  | succ f ih =>
    intro l r
    simp only [ttv]
    cases h : third E l r (r - (l + 1)) (l + 1) with
    | none => exact Nat.zero_le _
    | some m =>
      have h1 := third_in _ _ _ h
      have h2 := ih l m
      have h3 := ih m r
      simp only [Tr.nodes]; omega
theorem any_take (zss : List (List Int)) (a b j : Nat) (hj : j < zss.length) : (zss.drop j).any (edR a b) = (edR a b (row zss j) || (zss.drop (j + 1)).any (edR a b)) := by
  conv => lhs; rw [List.drop_eq_getElem_cons hj, List.any_cons]
  congr 1
  simp [row, List.getD, hj]

set_option maxRecDepth 100000 in
set_option maxHeartbeats 1000000 in
theorem edgeI (a b L c q : Nat) (A : Option Addr) (zss : List (List Int)) (w : World) (hL : zss.length = L) (hL2 : L ≤ 7) (hab : a < b) (hb10 : b ≤ 10) (h2 : ∀ j, j < zss.length → (row zss j).length = 2) (ha : RdM w A zss) (hq : w.cell? ⟨q, 0, none⟩ = some (.slice A L c)) : Calls Try.prog 95 #[.int .i64 (a : Int), .int .i64 (b : Int), .pointer (some ⟨q, 0, none⟩)] w fun e w' => e = .returned (.bool (ed zss a b)) ∧ w = w' := by
  have HA := Lib.hid ha
  have HL := Lib.hid hL
  have HT := Lib.hid h2
  clear ha hL h2
  by_cases h1 : b = a + 1
  · have e1 : ((b : Int) - (a : Int) == 1) = true := by rw [beq_iff_eq]; omega
    have HV : Hid (ed zss a b = true) := by show _ = _; unfold ed; rw [decide_eq_true h1]; rfl
    clear h1
    go_enter Try.func95, Try.ntmps95
    go_wp2
    go_ret
    exact ⟨by rw [HV.out]; rfl, rfl⟩
  · have e1 : ((b : Int) - (a : Int) == 1) = false := by rw [beq_eq_false_iff_ne]; omega
    have HV : Hid (ed zss a b = (zss.drop 0).any (edR a b)) := by show _ = _; unfold ed; rw [decide_eq_false h1]; rfl
    clear h1
    go_enter Try.func95, Try.ntmps95
    go_wp2
    go_loop [14] (fun i => ∃ j : Nat, j ≤ L ∧ i = .int .i64 (j : Int) ∧ Hid (ed zss a b = (zss.drop j).any (edR a b))) (fun i => L - (intOf i).toNat)
    case atStart => exact ⟨0, by omega, rfl, HV.out⟩
    case round =>
      obtain ⟨j, hj, rfl, HE⟩ := hrel
      by_cases hjl : j < L
      · have hjz : j < zss.length := by rw [HL.out]; exact hjl
        obtain ⟨bb, oo, rfl⟩ := HA.out.form (by omega)
        obtain ⟨Aj, cj, hcj', hmj, hrj⟩ := HA.out.get j hjz
        have h2 := HT.out j hjz
        rw [h2] at hcj'
        obtain ⟨pj, oj, rfl, g0, g1⟩ := Two.of hrj h2
        have hcj := hcj' _ (Below.refl _ _)
        have hst := HE.out
        rw [any_take zss a b j hjz] at hst
        simp only [edR] at hst
        obtain ⟨x, hx⟩ : ∃ x, x = (row zss j).getD 0 0 := ⟨_, rfl⟩
        obtain ⟨y, hy⟩ : ∃ y, y = (row zss j).getD 1 0 := ⟨_, rfl⟩
        rw [← hx] at g0 hst
        rw [← hy] at g1 hst
        clear hx hy hcj' hrj h2 hmj
        by_cases hxa : x = (a : Int)
        · have d1 : (x == (a : Int)) = true := by simpa using hxa
          by_cases hyb : y = (b : Int)
          · have d2 : (y == (b : Int)) = true := by simpa using hyb
            have HF : Hid (ed zss a b = true) := by show _ = _; rw [hst, d1, d2]; rfl
            clear hst hxa hyb
            go_wp2
            go_ret
            exact ⟨by rw [HF.out]; rfl, rfl⟩
          · have d2 : (y == (b : Int)) = false := by simpa using hyb
            have HE2 : Hid (ed zss a b = (zss.drop (j + 1)).any (edR a b)) := by show _ = _; rw [hst, d1, d2]; rfl
            clear hst hxa hyb
            go_wp2
            go_round
            case rel => exact ⟨j + 1, by omega, by go_num, HE2.out⟩
            case measure => simp [intOf]; omega
        · have d1 : (x == (a : Int)) = false := by simpa using hxa
          have HE2 : Hid (ed zss a b = (zss.drop (j + 1)).any (edR a b)) := by show _ = _; rw [hst, d1]; rfl
          clear hst hxa
          go_wp2
          go_round
          case rel => exact ⟨j + 1, by omega, by go_num, HE2.out⟩
          case measure => simp [intOf]; omega
      · obtain rfl : j = L := by omega
        have HF : Hid (ed zss a b = false) := by
          show _ = _
          rw [HE.out, List.drop_of_length_le (by rw [HL.out]; exact Nat.le_refl _)]; rfl
        go_wp2
        go_ret
        exact ⟨by rw [HF.out]; rfl, rfl⟩
set_option maxRecDepth 100000 in
set_option maxHeartbeats 1000000 in
theorem sideS (n : Int) (a b L c : Nat) (A : Option Addr) (zss : List (List Int)) (w : World) (hL : zss.length = L) (hL2 : L ≤ 7) (hn2 : 2 ≤ n) (hn : n ≤ 10) (hab : a < b) (hb10 : b ≤ 10) (hno : ¬ (a = 0 ∧ (b : Int) = n - 1)) (h2 : ∀ j, j < zss.length → (row zss j).length = 2) (ha : RdM w A zss) : Calls Try.prog 94 #[.int .i64 n, .slice A L c, .int .i64 (a : Int), .int .i64 (b : Int)] w fun e w' => e = .returned (.bool (ed zss a b)) ∧ w = w' := by
  have HA := Lib.hid ha
  have HL := Lib.hid hL
  have HT := Lib.hid h2
  clear ha hL h2
  by_cases h1 : b = a + 1
  · have e1 : ((b : Int) == (a : Int) + 1) = true := by rw [beq_iff_eq]; omega
    have HV : Hid (ed zss a b = true) := by show _ = _; unfold ed; rw [decide_eq_true h1]; rfl
    clear h1 hno
    go_enter Try.func94, Try.ntmps94
    go_wp2
    go_ret
    exact ⟨by rw [HV.out]; rfl, rfl⟩
  · have e1 : ((b : Int) == (a : Int) + 1) = false := by rw [beq_eq_false_iff_ne]; omega
    have HV : Hid (ed zss a b = (zss.drop 0).any (edR a b)) := by show _ = _; unfold ed; rw [decide_eq_false h1]; rfl
    have hcase : ((a : Int) == 0) = false ∨ (((a : Int) == 0) = true ∧ ((b : Int) == n - 1) = false) := by
      by_cases ha0 : a = 0
      · exact .inr ⟨by rw [beq_iff_eq]; omega, by rw [beq_eq_false_iff_ne]; exact fun h => hno ⟨ha0, h⟩⟩
      · exact .inl (by rw [beq_eq_false_iff_ne]; omega)
    clear h1 hno
    rcases hcase with e2 | ⟨e2, e3⟩
    all_goals
      go_enter Try.func94, Try.ntmps94
      go_wp2
      go_loop [9] (fun i => ∃ j : Nat, j ≤ L ∧ i = .int .i64 (j : Int) ∧ Hid (ed zss a b = (zss.drop j).any (edR a b))) (fun i => L - (intOf i).toNat)
      case atStart => exact ⟨0, by omega, rfl, HV.out⟩
      case round =>
        obtain ⟨j, hj, rfl, HE⟩ := hrel
        have hj0 : (0 : Int) ≤ (j : Int) := by omega
        by_cases hjl : j < L
        · have hjI : (j : Int) < (L : Int) := by omega
          have hjz : j < zss.length := by rw [HL.out]; exact hjl
          obtain ⟨bb, oo, rfl⟩ := HA.out.form (by omega)
          obtain ⟨Aj, cj, hcj', hmj, hrj⟩ := HA.out.get j hjz
          have h2 := HT.out j hjz
          rw [h2] at hcj'
          obtain ⟨pj, oj, rfl, g0, g1⟩ := Two.of hrj h2
          have hcj := hcj' _ (Below.refl _ _)
          have hst := HE.out
          rw [any_take zss a b j hjz] at hst
          simp only [edR] at hst
          obtain ⟨x, hx⟩ : ∃ x, x = (row zss j).getD 0 0 := ⟨_, rfl⟩
          obtain ⟨y, hy⟩ : ∃ y, y = (row zss j).getD 1 0 := ⟨_, rfl⟩
          rw [← hx] at g0 hst
          rw [← hy] at g1 hst
          clear hx hy hcj' hrj h2 hmj
          by_cases hxa : x = (a : Int)
          · have d1 : (x == (a : Int)) = true := by simpa using hxa
            by_cases hyb : y = (b : Int)
            · have d2 : (y == (b : Int)) = true := by simpa using hyb
              have HF : Hid (ed zss a b = true) := by show _ = _; rw [hst, d1, d2]; rfl
              clear hst hxa hyb
              go_wp2
              go_ret
              exact ⟨by rw [HF.out]; rfl, rfl⟩
            · have d2 : (y == (b : Int)) = false := by simpa using hyb
              have HE2 : Hid (ed zss a b = (zss.drop (j + 1)).any (edR a b)) := by show _ = _; rw [hst, d1, d2]; rfl
              clear hst hxa hyb
              go_wp2
              go_round
              case rel => exact ⟨j + 1, by omega, by go_num, HE2.out⟩
              case measure => simp [intOf]; omega
          · have d1 : (x == (a : Int)) = false := by simpa using hxa
            have HE2 : Hid (ed zss a b = (zss.drop (j + 1)).any (edR a b)) := by show _ = _; rw [hst, d1]; rfl
            clear hst hxa
            go_wp2
            go_round
            case rel => exact ⟨j + 1, by omega, by go_num, HE2.out⟩
            case measure => simp [intOf]; omega
        · obtain rfl : j = L := by omega
          have HF : Hid (ed zss a b = false) := by
            show _ = _
            rw [HE.out, List.drop_of_length_le (by rw [HL.out]; exact Nat.le_refl _)]; rfl
          go_wp2
          go_ret
          exact ⟨by rw [HF.out]; rfl, rfl⟩
theorem third_end (E : Nat → Nat → Bool) (l r : Nat) : third E l r (r - r) r = none := by rw [Nat.sub_self]; rfl
theorem third_yes {E : Nat → Nat → Bool} {l r m : Nat} (hm : m < r) (h : (E l m && E m r) = true) : third E l r (r - m) m = some m := by
  rw [show r - m = (r - (m + 1)) + 1 by omega]
  simp only [third]; rw [if_pos h]
theorem third_no {E : Nat → Nat → Bool} {l r m : Nat} (hm : m < r) (h : (E l m && E m r) = false) : third E l r (r - m) m = third E l r (r - (m + 1)) (m + 1) := by
  rw [show r - m = (r - (m + 1)) + 1 by omega]
  simp only [third]; rw [if_neg (by rw [h]; simp)]
theorem ttv_none {E : Nat → Nat → Bool} {f l r : Nat} (h : third E l r (r - (l + 1)) (l + 1) = none) : ttv E (f + 1) l r = .lf := by simp only [ttv, h]
theorem ttv_some {E : Nat → Nat → Bool} {f l r m : Nat} (h : third E l r (r - (l + 1)) (l + 1) = some m) : ttv E (f + 1) l r = .nd (ttv E f l m) (ttv E f m r) := by simp only [ttv, h]
theorem ttv_side (E : Nat → Nat → Bool) (f l : Nat) : ttv E f l (l + 1) = .lf := by
  cases f with
  | zero => rfl
  | succ f => exact ttv_none (by rw [Nat.sub_self]; rfl)
theorem toB_par3 (l r : List UInt8) : (⟨#[40]⟩ : ByteArray) ++ toB l ++ toB r ++ ⟨#[41]⟩ = toB (40 :: (l ++ (r ++ [41]))) := by
  apply ByteArray.ext
  simp [toB, ByteArray.data_append]

set_option maxRecDepth 100000 in
set_option maxHeartbeats 1000000 in
theorem l7TreeS (n : Int) (L c : Nat) (A : Option Addr) (zss : List (List Int)) (w : World) (hL : zss.length = L) (hL2 : L ≤ 7) (hn2 : 2 ≤ n) (hn : n ≤ 10) (h2 : ∀ j, j < zss.length → (row zss j).length = 2) (ha : RdM w A zss) : ∀ (f l r : Nat), r - l ≤ f + 1 → l < r → (r : Int) ≤ n - 1 →
    Calls Try.prog 83 #[.int .i64 n, .slice A L c, .int .i64 (l : Int), .int .i64 (r : Int)] w fun e w' => e = .returned (.string (toB (ttv (ed zss) f l r).txt)) ∧ w = w' := by
  have HSd := Lib.hid (fun a b hab hb10 hno => sideS n a b L c A zss w hL hL2 hn2 hn hab hb10 hno h2 ha)
  clear ha h2 hL
  intro f
  induction f with
  | zero =>
    intro l r hf hlr hr
    obtain rfl : r = l + 1 := by omega
    have e1 : (((l + 1 : Nat) : Int) == (l : Int) + 1) = true := by rw [beq_iff_eq]; omega
    go_enter Try.func83, Try.ntmps83
    go_wp2
    go_ret
    exact ⟨rfl, rfl⟩
  | succ f ih =>
    intro l r hf hlr hr
    by_cases h1 : r = l + 1
    · have HV : Hid (ttv (ed zss) (f + 1) l r = .lf) := by show _ = _; rw [h1]; exact ttv_side _ _ _
      have e1 : ((r : Int) == (l : Int) + 1) = true := by rw [beq_iff_eq]; omega
      clear ih h1
      go_enter Try.func83, Try.ntmps83
      go_wp2
      go_ret
      exact ⟨by rw [HV.out]; rfl, rfl⟩
    · have e1 : ((r : Int) == (l : Int) + 1) = false := by rw [beq_eq_false_iff_ne]; omega
      have HI := Lib.hid (fun l r h1 h2 h3 => ih l r h1 h2 h3)
      clear ih h1
      go_enter Try.func83, Try.ntmps83
      go_wp2
      go_loop [9] (fun i => ∃ m : Nat, l + 1 ≤ m ∧ m ≤ r ∧ i = .int .i64 (m : Int) ∧ Hid (third (ed zss) l r (r - (l + 1)) (l + 1) = third (ed zss) l r (r - m) m)) (fun i => r - (intOf i).toNat)
      case atStart => exact ⟨l + 1, by omega, by omega, by go_num, rfl⟩
      case round =>
        obtain ⟨m, hm1, hm2, rfl, HT⟩ := hrel
        by_cases hmr : m < r
        · have HS1 := Lib.hid (HSd.out l m (by omega) (by omega) (by omega))
          have HS2 := Lib.hid (HSd.out m r (by omega) (by omega) (by omega))
          cases h1 : ed zss l m with
          | false =>
            rw [h1] at HS1
            have HT2 : Hid (third (ed zss) l r (r - (l + 1)) (l + 1) = third (ed zss) l r (r - (m + 1)) (m + 1)) := by show _ = _; rw [HT.out, third_no hmr (by rw [h1]; rfl)]
            clear h1
            go_wp2_with (go_at_call 94; refine (HS1.out).mono ?_; rintro e w' ⟨rfl, rfl⟩)
            go_round
            case rel => exact ⟨m + 1, by omega, by omega, by go_num, HT2.out⟩
            case measure => simp [intOf]; omega
          | true =>
            rw [h1] at HS1
            cases h2 : ed zss m r with
            | false =>
              rw [h2] at HS2
              have HT2 : Hid (third (ed zss) l r (r - (l + 1)) (l + 1) = third (ed zss) l r (r - (m + 1)) (m + 1)) := by show _ = _; rw [HT.out, third_no hmr (by rw [h1, h2]; rfl)]
              clear h1 h2
              go_wp2_with fail
              refine (HS1.out).mono ?_
              rintro e w' ⟨rfl, rfl⟩
              go_wp2_with fail
              refine (HS2.out).mono ?_
              rintro e w' ⟨rfl, rfl⟩
              go_wp2_with fail
              go_round
              case rel => exact ⟨m + 1, by omega, by omega, by go_num, HT2.out⟩
              case measure => simp [intOf]; omega
            | true =>
              rw [h2] at HS2
              have HV : Hid (ttv (ed zss) (f + 1) l r = .nd (ttv (ed zss) f l m) (ttv (ed zss) f m r)) := ttv_some (by rw [HT.out]; exact third_yes hmr (by rw [h1, h2]; rfl))
              have HA := Lib.hid (HI.out l m (by omega) (by omega) (by omega))
              have HC := Lib.hid (HI.out m r (by omega) (by omega) (by omega))
              have n1 := ttv_nodes (ed zss) f l m
              have n3 := ttv_nodes (ed zss) f m r
              have s1 : (toB (ttv (ed zss) f l m).txt).size ≤ 60 := by rw [toB_size, len_txt]; omega
              have s2 : (toB (ttv (ed zss) f m r).txt).size ≤ 60 := by rw [toB_size, len_txt]; omega
              have HTx := Lib.hid (toB_par3 (ttv (ed zss) f l m).txt (ttv (ed zss) f m r).txt)
              have HW : Hid (toB (Tr.nd (ttv (ed zss) f l m) (ttv (ed zss) f m r)).txt = toB (40 :: ((ttv (ed zss) f l m).txt ++ ((ttv (ed zss) f m r).txt ++ [41])))) := rfl
              obtain ⟨x, hx⟩ : ∃ x, x = toB (ttv (ed zss) f l m).txt := ⟨_, rfl⟩
              obtain ⟨y, hy⟩ : ∃ y, y = toB (ttv (ed zss) f m r).txt := ⟨_, rfl⟩
              rw [← hx] at HA HTx s1
              rw [← hy] at HC HTx s2
              have p1 : (⟨#[40]⟩ : ByteArray).size ≤ 1 := Nat.le_refl _
              have p2 : (⟨#[41]⟩ : ByteArray).size ≤ 1 := Nat.le_refl _
              have s3 : (⟨#[40]⟩ ++ x : ByteArray).size ≤ 61 := by rw [ByteArray.size_append]; omega
              have s4 : (⟨#[40]⟩ ++ x ++ y : ByteArray).size ≤ 121 := by rw [ByteArray.size_append]; omega
              clear h1 h2 n1 n3 hx hy
              go_wp2_with fail
              refine (HS1.out).mono ?_
              rintro e w' ⟨rfl, rfl⟩
              go_wp2_with fail
              refine (HS2.out).mono ?_
              rintro e w' ⟨rfl, rfl⟩
              go_wp2_with fail
              refine (HA.out).mono ?_
              rintro e w' ⟨rfl, rfl⟩
              go_wp2_with fail
              refine (HC.out).mono ?_
              rintro e w' ⟨rfl, rfl⟩
              go_wp2_with fail
              go_ret
              exact ⟨by rw [HV.out, HW.out, ← HTx.out]; rfl, rfl⟩
        · obtain rfl : m = r := by omega
          have HV : Hid (ttv (ed zss) (f + 1) l m = .lf) := ttv_none (by rw [HT.out]; exact third_end _ _ _)
          go_wp2
          go_ret
          exact ⟨by rw [HV.out]; rfl, rfl⟩
set_option maxRecDepth 100000 in
set_option maxHeartbeats 1000000 in
theorem totI (n : Int) (L c : Nat) (A : Option Addr) (zss : List (List Int)) (hL : zss.length = L) (hL2 : L ≤ 7) (hn : n ≤ 10) (h2 : ∀ j, j < zss.length → (row zss j).length = 2) : ∀ (f l r : Nat), r - l ≤ f + 1 → l < r → (r : Int) ≤ n - 1 → ∀ w : World, RdM w A zss →
    Calls Try.prog 84 #[.int .i64 n, .slice A L c, .int .i64 (l : Int), .int .i64 (r : Int)] w (RetT (ttv (ed zss) f l r) w) := by
  intro f
  induction f with
  | zero =>
    intro l r hf hlr hr w ha
    obtain rfl : r = l + 1 := by omega
    have e1 : ¬ (((l : Int) + 1) < ((l + 1 : Nat) : Int)) := by omega
    clear h2 hL
    go_enter Try.func84, Try.ntmps84
    go_wp2
    refine wp_loop_rounds 1 ?_
    rw [rounds_succ]
    go_wp2
    go_ret
    exact ⟨_, rfl, rfl, (Below.refl _ _).alloc (Nat.le_refl _) _⟩
  | succ f ih =>
    intro l r hf hlr hr w ha
    have HE := Lib.hid (fun a b q w (hb : RdM w A zss) hq h1 h3 => edgeI a b L c q A zss w hL hL2 h1 h3 h2 hb hq)
    have HI := Lib.hid (fun l r w h1 h2 h3 hb => ih l r h1 h2 h3 w hb)
    have HA := Lib.hid ha
    clear ih ha h2 hL
    have hq : (w.alloc (.cells #[.slice A L c] 39)).cell? ⟨w.heap.size, 0, none⟩ = some (.slice A L c) := by unfold World.cell?; rw [heap_alloc_new]; rfl
    have hql : w.heap.size < (w.alloc (.cells #[.slice A L c] 39)).heap.size := by simp
    have HB1 := Lib.hid ((Below.refl w.heap.size w).alloc (Nat.le_refl _) (.cells #[.slice A L c] 39))
    have HQL := Lib.hid hql
    have HQ := Lib.hid hq
    clear hql hq
    go_enter Try.func84, Try.ntmps84
    go_wp2
    have hq := HQ.out
    have hql := HQL.out
    generalize w.alloc (.cells #[.slice A L c] 39) = w1 at hq hql HB1 ⊢
    obtain ⟨q, hqq⟩ : ∃ q, q = w.heap.size := ⟨_, rfl⟩
    rw [← hqq] at hq hql ⊢
    have HQ1 := Lib.hid hq
    have HM1 := Lib.hid (HA.out.keep HB1.out)
    have HBW : Hid (Below w.heap.size w w1) := HB1.out
    clear hqq HB1 HQ HQL
    go_loop [10] (fun i => ∃ m : Nat, l + 1 ≤ m ∧ m ≤ r ∧ i = .int .i64 (m : Int) ∧ Hid (third (ed zss) l r (r - (l + 1)) (l + 1) = third (ed zss) l r (r - m) m)) (fun i => r - (intOf i).toNat)
    case atStart => exact ⟨l + 1, by omega, by omega, by go_num, rfl⟩
    case round =>
      obtain ⟨m, hm1, hm2, rfl, HT⟩ := hrel
      by_cases hmr : m < r
      · have HS1 := Lib.hid (HE.out l m q w1 HM1.out HQ1.out (by omega) (by omega))
        have HS2 := Lib.hid (HE.out m r q w1 HM1.out HQ1.out (by omega) (by omega))
        cases h1 : ed zss l m with
        | false =>
          rw [h1] at HS1
          have HT2 : Hid (third (ed zss) l r (r - (l + 1)) (l + 1) = third (ed zss) l r (r - (m + 1)) (m + 1)) := by show _ = _; rw [HT.out, third_no hmr (by rw [h1]; rfl)]
          clear h1
          go_wp2_with (go_at_call 95; refine (HS1.out).mono ?_; rintro e w' ⟨rfl, rfl⟩)
          go_round
          case rel => exact ⟨m + 1, by omega, by omega, by go_num, HT2.out⟩
          case measure => simp [intOf]; omega
        | true =>
          rw [h1] at HS1
          cases h2 : ed zss m r with
          | false =>
            rw [h2] at HS2
            have HT2 : Hid (third (ed zss) l r (r - (l + 1)) (l + 1) = third (ed zss) l r (r - (m + 1)) (m + 1)) := by show _ = _; rw [HT.out, third_no hmr (by rw [h1, h2]; rfl)]
            clear h1 h2
            go_wp2_with fail
            refine (HS1.out).mono ?_
            rintro e w' ⟨rfl, rfl⟩
            go_wp2_with fail
            refine (HS2.out).mono ?_
            rintro e w' ⟨rfl, rfl⟩
            go_wp2_with fail
            go_round
            case rel => exact ⟨m + 1, by omega, by omega, by go_num, HT2.out⟩
            case measure => simp [intOf]; omega
          | true =>
            rw [h2] at HS2
            have HV : Hid (ttv (ed zss) (f + 1) l r = .nd (ttv (ed zss) f l m) (ttv (ed zss) f m r)) := ttv_some (by rw [HT.out]; exact third_yes hmr (by rw [h1, h2]; rfl))
            have HL1 := Lib.hid (fun w' (hb : Below w1.heap.size w1 w') => HI.out l m w' (by omega) (by omega) (by omega) (HM1.out.keep hb))
            have HR1 := Lib.hid (fun w' (hb : Below w1.heap.size w1 w') => HI.out m r w' (by omega) (by omega) (by omega) (HM1.out.keep hb))
            clear h1 h2
            go_wp2_with fail
            refine (HS1.out).mono ?_
            rintro e w' ⟨rfl, rfl⟩
            go_wp2_with fail
            refine (HS2.out).mono ?_
            rintro e w' ⟨rfl, rfl⟩
            go_wp2_with fail
            go_region_held3 (fun w' => w'.cell? ⟨q, 0, none⟩ = some (.slice A L c))
              (first | go_keep)
              (first
                | (go_at_call 84; (with_reducible refine (HL1.out _ (by first | exact Below.refl _ _ | exact (Below.refl _ _).drew | exact below_drewN (Below.refl _ _) _)).mono ?_); rintro e w2 ⟨v2, rfl, ht2, hb2⟩; obtain ⟨p2, rfl⟩ := ht2.form; have hq2 : w2.cell? ⟨q, 0, none⟩ = some (.slice A L c) := (hb2.cell (p := ⟨q, 0, none⟩) hql).trans (by simpa using hq); have hql2 : q < w2.heap.size := Nat.lt_of_lt_of_le hql hb2.size)
                | (go_at_call 84; (with_reducible refine (HR1.out _ (by first | exact hb2 | exact below_then (Below.refl _ _).drew hb2 | exact below_then (below_drewN (Below.refl _ _) _) hb2)).mono ?_); rintro e w3 ⟨v3, rfl, ht3, hb3⟩; obtain ⟨p3, rfl⟩ := ht3.form; have hq3 : w3.cell? ⟨q, 0, none⟩ = some (.slice A L c) := (hb3.cell (p := ⟨q, 0, none⟩) hql2).trans hq2))
            have hbw : Below w1.heap.size w1 w2 := by first | exact hb2 | exact below_then (Below.refl _ _).drew hb2 | exact below_then (below_drewN (Below.refl _ _) _) hb2
            have hbz := below_then HBW.out (below_then hbw hb3)
            have hT : TreeAt (w3.alloc (.cells #[.pointer p2, .pointer p3] 52)) (.pointer (some ⟨w3.heap.size, 0, none⟩)) (.nd (ttv (ed zss) f l m) (ttv (ed zss) f m r)) := (ht2.keep hb3).node ht3
            have HTT : Hid (TreeAt (w3.alloc (.cells #[.pointer p2, .pointer p3] 52)) (.pointer (some ⟨w3.heap.size, 0, none⟩)) (ttv (ed zss) (f + 1) l r)) := by show TreeAt _ _ _; rw [HV.out]; exact hT
            have HBB := Lib.hid (hbz.alloc hbz.size (.cells #[.pointer p2, .pointer p3] 52))
            clear hT hbw hbz hb2 hb3 ht2 ht3 hq2 hq3 hql2
            go_wp2
            go_ret
            exact ⟨_, rfl, HTT.out, HBB.out⟩
      · obtain rfl : m = r := by omega
        have HV : Hid (ttv (ed zss) (f + 1) l m = .lf) := ttv_none (by rw [HT.out]; exact third_end _ _ _)
        have HTL : Hid (TreeAt w1 (.pointer none) (ttv (ed zss) (f + 1) l m)) := by show TreeAt _ _ _; rw [HV.out]; rfl
        go_wp2
        go_ret
        exact ⟨_, rfl, HTL.out, HBW.out⟩
/-- What BinaryOfTriangles returns. -/
def botT (n : Int) (zss : List (List Int)) : Tr := ttv (ed zss) (n.toNat) 0 (n.toNat - 1)
set_option maxRecDepth 100000 in
theorem botS_yes (n : Int) (A : Option Addr) (c L : Nat) (zss : List (List Int)) (w : World) (hL : zss.length = L) (hL2 : L ≤ 1048576) (ha : RdM w A zss) (ht : tri n zss = true) : Calls Try.prog 53 #[.int .i64 n, .slice A L c] w fun e w' => e = .returned (.tuple #[.string (toB (botT n zss).txt), .bool true]) ∧ Below w.heap.size w w' := by
  have HTr := Lib.hid (isTriS n A c L zss w hL hL2 ha)
  rw [ht] at HTr
  obtain ⟨n2, n10, hL7⟩ := tri_in ht
  have HTw := Lib.hid (fun w' (hb : Below w.heap.size w w') => l7TreeS n L c A zss w' hL (by omega) n2 n10 (tri_two ht) (ha.keep hb) n.toNat 0 (n.toNat - 1) (by omega) (by omega) (by omega))
  rw [show (((n.toNat - 1 : Nat)) : Int) = n - 1 by omega, show ((0 : Nat) : Int) = 0 from rfl] at HTw
  have HV : Hid (botT n zss = ttv (ed zss) (n.toNat) 0 (n.toNat - 1)) := rfl
  rw [← HV.out] at HTw
  clear ha hL ht
  go_enter Try.func53, Try.ntmps53
  go_wp2_with fail
  refine (HTr.out).mono ?_
  rintro e w1 ⟨rfl, hb1⟩
  go_wp2_with fail
  refine (HTw.out _ hb1).mono ?_
  rintro e w2 ⟨rfl, rfl⟩
  go_wp2_with fail
  go_ret2
  exact ⟨rfl, hb1⟩
theorem botS_no (n : Int) (A : Option Addr) (c L : Nat) (zss : List (List Int)) (w : World) (hL : zss.length = L) (hL2 : L ≤ 1048576) (ha : RdM w A zss) (ht : tri n zss = false) : Calls Try.prog 53 #[.int .i64 n, .slice A L c] w fun e w' => e = .returned (.tuple #[.string ByteArray.empty, .bool false]) ∧ Below w.heap.size w w' := by
  have HTr := Lib.hid (isTriS n A c L zss w hL hL2 ha)
  rw [ht] at HTr
  clear ha hL ht
  go_enter Try.func53, Try.ntmps53
  go_wp2_with fail
  refine (HTr.out).mono ?_
  rintro e w1 ⟨rfl, hb1⟩
  go_wp2_with fail
  go_ret2
  exact ⟨rfl, hb1⟩
set_option maxRecDepth 100000 in
theorem botI_yes (n : Int) (A : Option Addr) (c L : Nat) (zss : List (List Int)) (w : World) (hL : zss.length = L) (hL2 : L ≤ 1048576) (hLc : L ≤ c) (hcm : c ≤ 9223372036854775807) (ha : RdM w A zss) (ht : tri n zss = true) : Calls Try.prog 54 #[.int .i64 n, .slice A L c] w fun e w' => e = .returned (.tuple #[.string (toB (botT n zss).txt), .bool true]) ∧ Below w.heap.size w w' := by
  have HTr := Lib.hid (isTriI n A c L zss w hL hL2 hLc hcm ha)
  rw [ht] at HTr
  obtain ⟨n2, n10, hL7⟩ := tri_in ht
  have HTw := Lib.hid (fun w' (hb : Below w.heap.size w w') => totI n L c A zss hL (by omega) n10 (tri_two ht) n.toNat 0 (n.toNat - 1) (by omega) (by omega) (by omega) w' (ha.keep hb))
  rw [show (((n.toNat - 1 : Nat)) : Int) = n - 1 by omega, show ((0 : Nat) : Int) = 0 from rfl] at HTw
  have HV : Hid (botT n zss = ttv (ed zss) (n.toNat) 0 (n.toNat - 1)) := rfl
  have hnod := ttv_nodes (ed zss) n.toNat 0 (n.toNat - 1)
  rw [← HV.out] at HTw hnod
  have HX := Lib.hid (textT (botT n zss) (by omega))
  clear ha hL ht hnod
  go_enter Try.func54, Try.ntmps54
  go_wp2_with fail
  refine (HTr.out).mono ?_
  rintro e w1 ⟨rfl, hb1⟩
  go_wp2_with fail
  refine (HTw.out _ hb1).mono ?_
  rintro e w2 ⟨v2, rfl, ht2, hb2⟩
  obtain ⟨p2, rfl⟩ := ht2.form
  go_wp2_with fail
  refine (HX.out _ _ ht2).mono ?_
  rintro e w3 ⟨rfl, q, rfl⟩
  go_wp2_with fail
  go_ret2
  exact ⟨rfl, below_drewN (below_then hb1 hb2) _⟩
theorem botI_no (n : Int) (A : Option Addr) (c L : Nat) (zss : List (List Int)) (w : World) (hL : zss.length = L) (hL2 : L ≤ 1048576) (hLc : L ≤ c) (hcm : c ≤ 9223372036854775807) (ha : RdM w A zss) (ht : tri n zss = false) : Calls Try.prog 54 #[.int .i64 n, .slice A L c] w fun e w' => e = .returned (.tuple #[.string ByteArray.empty, .bool false]) ∧ Below w.heap.size w w' := by
  have HTr := Lib.hid (isTriI n A c L zss w hL hL2 hLc hcm ha)
  rw [ht] at HTr
  clear ha hL ht
  go_enter Try.func54, Try.ntmps54
  go_wp2_with fail
  refine (HTr.out).mono ?_
  rintro e w1 ⟨rfl, hb1⟩
  go_wp2_with fail
  go_ret2
  exact ⟨rfl, hb1⟩
theorem bot_law (n : Int) (zss : List (List Int)) (hln : zss.length ≤ 1048576) (_ : zss.length + szRest zss ≤ 1048576) : ∃ s b, (∀ A c w, zss.length ≤ c → c ≤ 9223372036854775807 → RdM w A zss → Calls Try.prog 53 #[.int .i64 n, .slice A zss.length c] w fun e w' => e = .returned (.tuple #[.string s, .bool b]) ∧ Below w.heap.size w w') ∧
    (∀ A c w, zss.length ≤ c → c ≤ 9223372036854775807 → RdM w A zss → Calls Try.prog 54 #[.int .i64 n, .slice A zss.length c] w fun e w' => e = .returned (.tuple #[.string s, .bool b]) ∧ Below w.heap.size w w') := by
  cases ht : tri n zss with
  | true => exact ⟨_, _, fun A c w _ _ ha => botS_yes n A c _ zss w rfl hln ha ht, fun A c w h1 h2 ha => botI_yes n A c _ zss w rfl hln h1 h2 ha ht⟩
  | false => exact ⟨_, _, fun A c w _ _ ha => botS_no n A c _ zss w rfl hln ha ht, fun A c w h1 h2 ha => botI_no n A c _ zss w rfl hln h1 h2 ha ht⟩
set_option maxRecDepth 100000 in
set_option maxHeartbeats 2000000 in
theorem law_FnExactBinaryOfTriangles (n : Int) (A : Option Addr) (L c : Nat) (zss : List (List Int)) (w : World) (_ : (Lit.int .i64 n).wf = true) (h : Mat w A L zss) : Calls Try.prog 15 #[.int .i64 n, .slice A L c] w fun e w' => e = .returned (.bool true) ∧ Below w.heap.size w w' := by
  obtain ⟨hl, hm, hr⟩ := h
  subst hl
  have HSz := Lib.hid (szIntSS A zss.length c zss w rfl hm hr)
  unfold maxLen at hm
  by_cases hb : szV zss < 0
  · obtain ⟨v, hv⟩ : ∃ v, v = szV zss := ⟨_, rfl⟩
    rw [← hv] at HSz hb
    clear hr hv
    go_enter Try.func15, Try.ntmps15
    go_wp2_with fail
    refine (HSz.out).mono ?_
    rintro e w' ⟨rfl, rfl⟩
    go_wp2_with fail
    go_ret
    exact ⟨rfl, Below.refl _ _⟩
  · have hsz := szV_ok hb
    have hz := sz_row hsz
    have hln : zss.length ≤ 1048576 := by omega
    obtain ⟨v, hv⟩ : ∃ v, v = szV zss := ⟨_, rfl⟩
    rw [← hv] at HSz hb
    have HZ := Lib.hid hz
    have HT := Lib.hid (fun w' (hbw : Below w.heap.size w w') => toIntSS A zss.length c zss w' rfl hln hz (hr.keep hbw))
    obtain ⟨s, b, hS, hI⟩ := bot_law n zss hln hsz
    have HS := Lib.hid hS
    have HI := Lib.hid hI
    clear hS hI hv hr hz hsz
    go_enter Try.func15, Try.ntmps15
    go_wp2_with fail
    refine (HSz.out).mono ?_
    rintro e w' ⟨rfl, rfl⟩
    go_wp2_with fail
    refine (HT.out _ (Below.refl _ _)).mono ?_
    rintro e w1 ⟨A1, c1, rs1, rfl, hO1⟩
    go_wp2_with fail
    refine (HS.out _ _ _ hO1.outer.cap hO1.outer.capm hO1.rd).mono ?_
    rintro e w2 ⟨rfl, hb2⟩
    have L2 := Lib.hid (below_then hO1.outer.bel hb2)
    clear hO1 hb2
    go_wp2_with fail
    refine (HT.out _ L2.out).mono ?_
    rintro e w3 ⟨A3, c3, rs3, rfl, hO3⟩
    have G3 := Lib.hid hO3
    have L3 := Lib.hid (below_then L2.out hO3.outer.bel)
    clear hO3
    go_wp2_with fail
    refine (HI.out _ _ _ G3.out.outer.cap G3.out.outer.capm G3.out.rd).mono ?_
    rintro e w4 ⟨rfl, hb4⟩
    have L4 := Lib.hid (below_then L3.out hb4)
    have R4 := Lib.hid (G3.out.rd.keep hb4)
    clear hb4
    go_wp2_with fail
    refine (HT.out _ L4.out).mono ?_
    rintro e w5 ⟨A5, c5, rs5, rfl, hO5⟩
    have G5 := Lib.hid hO5
    have L5 := Lib.hid (below_then L4.out hO5.outer.bel)
    clear hO5
    go_wp2_with fail
    refine (eqIntSS A3 A5 c3 c5 zss _ (R4.out.keep G5.out.outer.bel) G5.out.rd hln HZ.out).mono ?_
    rintro e w6 ⟨rfl, hb6⟩
    go_wp2_with fail
    go_ret
    exact ⟨rfl, below_then L5.out hb6⟩
end Go.Proofs.Ythbfockobnfomaa
