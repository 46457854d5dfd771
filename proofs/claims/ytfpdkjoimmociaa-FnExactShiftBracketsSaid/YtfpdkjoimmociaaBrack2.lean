/-
  BracketsOf and PathOfBrackets of both packages, and their laws, walked.
-/
import Derived.Test.YtfpdkjoimmociaaBrack
namespace Go.Proofs.Ytfpdkjoimmociaa
open Go.RowKit
/-- The brackets of a path. -/
def brI (l : List UInt8) : List Int := l.map fun c => if c = 117 then 40 else 41
theorem brI_snoc (l : List UInt8) (c : UInt8) : brI (l ++ [c]) = brI l ++ [if c = 117 then 40 else 41] := by simp [brI]
theorem len_brI (l : List UInt8) : (brI l).length = l.length := by simp [brI]
theorem exch_path (l : List UInt8) (h : ∀ c ∈ l, c = 117 ∨ c = 100) : exch 117 100 40 41 l = some (brI l) := by
  induction l with
  | nil => rfl
  | cons c r ih =>
    have hr := ih fun x hx => h x (by simp [hx])
    rcases h c (by simp) with rfl | rfl
    · rw [exch_a, hr]; simp [brI]
    · rw [exch_b _ _ _ _ _ (by decide), hr]; simp [brI]
def brV (l : List UInt8) : Option ByteArray := if dyck l = true then some (strOfNums (brI l)) else none
def strB (o : Option ByteArray) : Value := match o with
  | some x => .tuple #[.string x, .bool true]
  | none => .tuple #[.string ByteArray.empty, .bool false]
theorem brV_yes {l : List UInt8} (h : dyck l = true) : brV l = some (strOfNums (brI l)) := if_pos h
theorem brV_no {l : List UInt8} (h : dyck l = false) : brV l = none := if_neg (by rw [h]; simp)

set_option maxRecDepth 100000 in
theorem bracketsI (s : ByteArray) (w : World) (hs : s.size ≤ 1048576) : Calls Try.prog 69 #[.string s] w fun e w' => e = .returned (strB (brV s.data.toList)) ∧ Below w.heap.size w w' := by
  cases hd : dyck s.data.toList with
  | false =>
    rw [brV_no hd]
    go_enter Try.func69, Try.ntmps69
    go_wp2_with (go_at_call 26; refine (isDyckI s _ hs).mono ?_; rintro e w' ⟨rfl, hb⟩)
    go_ret2
    exact ⟨rfl, hb⟩
  | true =>
    rw [brV_yes hd]
    have HX := Lib.hid (fun w => exchangedI_pb s w hs)
    rw [exch_path _ (hgo_letters (dyck_path hd))] at HX
    unfold strR at HX
    go_enter Try.func69, Try.ntmps69
    go_wp2_with fail
    refine (isDyckI s _ hs).mono ?_
    rintro e w1 ⟨rfl, hb1⟩
    go_wp2_with fail
    refine (HX.out _).mono ?_
    rintro e w2 ⟨rfl, hb2⟩
    go_wp2_with fail
    go_ret2
    exact ⟨rfl, below_then hb1 hb2⟩
set_option maxRecDepth 100000 in
set_option maxHeartbeats 1000000 in
theorem bracketsS (s : ByteArray) (w : World) (hs : s.size ≤ 1048576) : Calls Try.prog 68 #[.string s] w fun e w' => e = .returned (strB (brV s.data.toList)) ∧ Below w.heap.size w w' := by
  cases hd : dyck s.data.toList with
  | false =>
    rw [brV_no hd]
    go_enter Try.func68, Try.ntmps68
    go_wp2_with fail
    refine wp_loop_rounds 1 ?_
    rw [rounds_succ]
    go_wp2_with (go_at_call 25; refine (isDyckS s _ hs).mono ?_; rintro e w1 ⟨rfl, rfl⟩)
    all_goals
      go_ret2
      exact ⟨rfl, Below.refl _ _⟩
  | true =>
    rw [brV_yes hd]
    have hs16 : s.size ≤ 16 := by have := dyck_len hd; simpa using this
    go_enter Try.func68, Try.ntmps68
    go_wp2_with fail
    go_loop [4, 5] (fun o i => ∃ k : Nat, k ≤ s.size ∧ i = .int .i64 (k : Int) ∧ o = .string (strOfNums (brI (s.data.toList.take k)))) (fun _ i => s.size - (intOf i).toNat)
    case atStart => exact ⟨0, by omega, rfl, rfl⟩
    case round =>
      obtain ⟨k, hk, rfl, rfl⟩ := hrel
      have hl16 : (strOfNums (brI (s.data.toList.take k))).size ≤ 16 := by rw [strOfNums_size, len_brI]; simp; omega
      by_cases hlt : k < s.size
      · have hts := take_snoc s k hlt
        obtain ⟨o, ho⟩ : ∃ o, o = strOfNums (brI (s.data.toList.take k)) := ⟨_, rfl⟩
        by_cases h1 : s[k] = 117
        · have e1 := byte_eq 117 117 h1
          have HR : Hid (strOfNums (brI (s.data.toList.take (k + 1))) = o ++ ⟨#[40]⟩) := by rw [hts, brI_snoc, if_pos h1, ← strOfNums_app, ho]; rfl
          rw [← ho] at hl16 ⊢
          clear hts h1 ho
          go_wp2_with (go_at_call 25; refine (isDyckS s _ hs).mono ?_; rintro e w1 ⟨rfl, rfl⟩)
          go_round
          case rel => exact ⟨k + 1, by omega, by go_num, by rw [HR.out]⟩
          case measure => simp [intOf]; omega
        · have e1 := byte_ne 117 117 h1
          have HR : Hid (strOfNums (brI (s.data.toList.take (k + 1))) = o ++ ⟨#[41]⟩) := by rw [hts, brI_snoc, if_neg h1, ← strOfNums_app, ho]; rfl
          rw [← ho] at hl16 ⊢
          clear hts h1 ho
          go_wp2_with (go_at_call 25; refine (isDyckS s _ hs).mono ?_; rintro e w1 ⟨rfl, rfl⟩)
          go_round
          case rel => exact ⟨k + 1, by omega, by go_num, by rw [HR.out]⟩
          case measure => simp [intOf]; omega
      · rw [take_end s k hlt]
        go_wp2_with (go_at_call 25; refine (isDyckS s _ hs).mono ?_; rintro e w1 ⟨rfl, rfl⟩)
        go_ret2
        exact ⟨rfl, Below.refl _ _⟩
set_option maxRecDepth 100000 in
theorem law_FnExactBracketsOf (s : ByteArray) (w : World) (hs : s.size ≤ maxLen) : Calls Try.prog 19 #[.string s] w fun e w' => e = .returned (.bool true) ∧ Below w.heap.size w w' := by
  unfold maxLen at hs
  by_cases hb : s.size ≤ 1048576
  · have HS := Lib.hid (fun w => bracketsS s w hb)
    have HI := Lib.hid (fun w => bracketsI s w hb)
    obtain ⟨o, ho⟩ : ∃ o, o = brV s.data.toList := ⟨_, rfl⟩
    rw [← ho] at HS HI
    clear ho
    cases o with
    | none =>
      unfold strB at HS HI
      go_enter Try.func19, Try.ntmps19
      go_wp2_with fail
      refine (HS.out _).mono ?_
      rintro e w1 ⟨rfl, h1⟩
      go_wp2_with fail
      refine (HI.out _).mono ?_
      rintro e w2 ⟨rfl, h2⟩
      go_wp2_with fail
      go_ret
      exact ⟨rfl, below_then h1 h2⟩
    | some x =>
      unfold strB at HS HI
      go_enter Try.func19, Try.ntmps19
      go_wp2_with fail
      refine (HS.out _).mono ?_
      rintro e w1 ⟨rfl, h1⟩
      go_wp2_with fail
      refine (HI.out _).mono ?_
      rintro e w2 ⟨rfl, h2⟩
      go_wp2_with fail
      go_ret
      exact ⟨rfl, below_then h1 h2⟩
  · go_enter Try.func19, Try.ntmps19
    go_wp2
    go_ret
    exact ⟨rfl, Below.refl _ _⟩

/-- The path of a word of brackets. -/
def pobO (o : Option (List Int)) : Option ByteArray := match o with
  | some xs => if dyck (strOfNums xs).data.toList = true then some (strOfNums xs) else none
  | none => none
theorem pobO_yes (xs : List Int) (p : ByteArray) (hp : p = strOfNums xs) (hd : dyck p.data.toList = true) : pobO (some xs) = some p := by
  subst hp; show (if _ then _ else _) = _; exact if_pos hd
theorem pobO_no (xs : List Int) (p : ByteArray) (hp : p = strOfNums xs) (hd : dyck p.data.toList = false) : pobO (some xs) = none := by
  subst hp; show (if _ then _ else _) = _; exact if_neg (by rw [hd]; simp)
def pobV (l : List UInt8) : Option ByteArray := pobO (exch 40 41 117 100 l)
set_option maxRecDepth 100000 in
theorem pobI (s : ByteArray) (w : World) (hs : s.size ≤ 1048576) : Calls Try.prog 71 #[.string s] w fun e w' => e = .returned (strB (pobV s.data.toList)) ∧ Below w.heap.size w w' := by
  have HX := Lib.hid (fun w => exchangedI_bp s w hs)
  have hlen : ∀ xs, exch 40 41 117 100 s.data.toList = some xs → xs.length ≤ 1048576 := fun xs h => by rw [exch_len _ _ _ _ _ _ h]; simpa using hs
  unfold pobV
  obtain ⟨o, ho⟩ : ∃ o, o = exch 40 41 117 100 s.data.toList := ⟨_, rfl⟩
  rw [← ho] at HX hlen ⊢
  clear ho
  cases o with
  | none =>
    unfold strR at HX
    go_enter Try.func71, Try.ntmps71
    go_wp2_with fail
    refine (HX.out _).mono ?_
    rintro e w1 ⟨rfl, hb1⟩
    go_wp2_with fail
    go_ret2
    exact ⟨rfl, hb1⟩
  | some xs =>
    have hx : (strOfNums xs).size ≤ 1048576 := by rw [strOfNums_size]; exact hlen xs rfl
    clear hlen
    have HX : Hid (∀ w, Calls Try.prog 97 #[.string s, .string ⟨#[40, 41]⟩, .string ⟨#[117, 100]⟩] w fun e w' => e = .returned (.tuple #[.string (strOfNums xs), .bool true]) ∧ Below w.heap.size w w') := HX
    obtain ⟨p, hp⟩ : ∃ p, p = strOfNums xs := ⟨_, rfl⟩
    rw [← hp] at HX hx
    cases hd : dyck p.data.toList with
    | false =>
      have HV : Hid (strB (pobO (some xs)) = .tuple #[.string ByteArray.empty, .bool false]) := by show _ = _; rw [pobO_no xs p hp hd]; rfl
      clear hp
      go_enter Try.func71, Try.ntmps71
      go_wp2_with fail
      refine (HX.out _).mono ?_
      rintro e w1 ⟨rfl, hb1⟩
      go_wp2_with fail
      refine (isDyckI p _ hx).mono ?_
      rintro e w2 ⟨rfl, hb2⟩
      go_wp2_with fail
      go_ret2
      exact ⟨by rw [HV.out]; rfl, below_then hb1 hb2⟩
    | true =>
      have HV : Hid (strB (pobO (some xs)) = .tuple #[.string p, .bool true]) := by show _ = _; rw [pobO_yes xs p hp hd]; rfl
      clear hp
      go_enter Try.func71, Try.ntmps71
      go_wp2_with fail
      refine (HX.out _).mono ?_
      rintro e w1 ⟨rfl, hb1⟩
      go_wp2_with fail
      refine (isDyckI p _ hx).mono ?_
      rintro e w2 ⟨rfl, hb2⟩
      go_wp2_with fail
      go_ret2
      exact ⟨by rw [HV.out]; rfl, below_then hb1 hb2⟩
/-- What is read before the end of the word: the beginning's path. -/
theorem exch_snoc_a (a b : UInt8) (x y : Int) (l : List UInt8) (xs : List Int) (h : exch a b x y l = some xs) : exch a b x y (l ++ [a]) = some (xs ++ [x]) := by
  induction l generalizing xs with
  | nil => simp [exch] at h; subst h; simp [exch]
  | cons c r ih =>
    simp only [exch, List.cons_append] at h ⊢
    split at h
    · obtain ⟨ys, hy, rfl⟩ := Option.map_eq_some_iff.1 h; rw [if_pos ‹_›, ih ys hy]; rfl
    · split at h
      · obtain ⟨ys, hy, rfl⟩ := Option.map_eq_some_iff.1 h; rw [if_neg ‹_›, if_pos ‹_›, ih ys hy]; rfl
      · cases h
theorem pob_long (l : List UInt8) (h : 16 < l.length) : pobV l = none := by
  unfold pobV pobO
  cases hx : exch 40 41 117 100 l with
  | none => rfl
  | some xs =>
    have hl := exch_len _ _ _ _ _ _ hx
    have : dyck (strOfNums xs).data.toList = false := by
      rw [dyck, decide_eq_false]; · rfl
      · simp [strOfNums_data]; omega
    simp only [this]; rfl
set_option maxRecDepth 100000 in
set_option maxHeartbeats 1000000 in
theorem pobS (s : ByteArray) (w : World) (hs : s.size ≤ 1048576) : Calls Try.prog 70 #[.string s] w fun e w' => e = .returned (strB (pobV s.data.toList)) ∧ Below w.heap.size w w' := by
  by_cases h16 : s.size ≤ 16
  · go_enter Try.func70, Try.ntmps70
    go_wp2_with fail
    go_loop [4, 5] (fun o i => ∃ (k : Nat) (pre : List Int), k ≤ s.size ∧ i = .int .i64 (k : Int) ∧ pre.length = k ∧ o = .string (strOfNums pre) ∧ Hid (exch 40 41 117 100 s.data.toList = (exch 40 41 117 100 (s.data.toList.drop k)).map (pre ++ ·))) (fun _ i => s.size - (intOf i).toNat)
    case atStart => exact ⟨0, [], by omega, rfl, rfl, rfl, map_pre_nil _⟩
    case round =>
      obtain ⟨k, pre, hk, rfl, hpl, rfl, HE⟩ := hrel
      have hl16 : (strOfNums pre).size ≤ 16 := by rw [strOfNums_size]; omega
      have ha : ∀ x : Int, strOfNums (pre ++ [x]) = strOfNums pre ++ strOfNums [x] := fun x => (strOfNums_app _ _).symm
      have HA := Lib.hid ha
      clear ha
      by_cases hlt : k < s.size
      · have hdc := drop_cons s k hlt
        by_cases h1 : s[k] = 40
        · have e1 := byte_eq 40 40 h1
          have HE2 : Hid (exch 40 41 117 100 s.data.toList = (exch 40 41 117 100 (s.data.toList.drop (k + 1))).map ((pre ++ [117]) ++ ·)) := by have := HE.out; rw [hdc, h1, exch_a, map_pre] at this; exact this
          clear hdc h1
          go_wp2
          go_round
          case rel => exact ⟨k + 1, pre ++ [117], by omega, by go_num, by simp [hpl], by rw [HA.out]; rfl, HE2⟩
          case measure => simp [intOf]; omega
        · have e1 := byte_ne 40 40 h1
          by_cases h2 : s[k] = 41
          · have e2 := byte_eq 41 41 h2
            have HE2 : Hid (exch 40 41 117 100 s.data.toList = (exch 40 41 117 100 (s.data.toList.drop (k + 1))).map ((pre ++ [100]) ++ ·)) := by have := HE.out; rw [hdc, h2, exch_b _ _ _ _ _ (by decide), map_pre] at this; exact this
            clear hdc h1 h2
            go_wp2
            go_round
            case rel => exact ⟨k + 1, pre ++ [100], by omega, by go_num, by simp [hpl], by rw [HA.out]; rfl, HE2⟩
            case measure => simp [intOf]; omega
          · have e2 := byte_ne 41 41 h2
            have HF : Hid (pobV s.data.toList = none) := by have := HE.out; rw [hdc, exch_x _ _ _ _ _ _ h1 h2] at this; show pobV _ = _; unfold pobV; rw [this]; rfl
            clear hdc h1 h2
            go_wp2
            go_ret2
            exact ⟨by rw [HF.out]; rfl, Below.refl _ _⟩
      · have HF : Hid (pobV s.data.toList = pobO (some pre)) := by have := HE.out; rw [drop_end s k hlt] at this; show pobV _ = _; unfold pobV; rw [this]; simp [exch]
        obtain ⟨p, hp⟩ : ∃ p, p = strOfNums pre := ⟨_, rfl⟩
        cases hd : dyck p.data.toList with
        | false =>
          have HV : Hid (strB (pobO (some pre)) = .tuple #[.string ByteArray.empty, .bool false]) := by show _ = _; rw [pobO_no pre p hp hd]; rfl
          rw [← hp] at hl16 ⊢
          clear hp
          go_wp2_with (go_at_call 25; refine (isDyckS p _ (by omega)).mono ?_; rintro e w1 ⟨rfl, rfl⟩)
          go_ret2
          exact ⟨by rw [HF.out, HV.out]; rfl, Below.refl _ _⟩
        | true =>
          have HV : Hid (strB (pobO (some pre)) = .tuple #[.string p, .bool true]) := by show _ = _; rw [pobO_yes pre p hp hd]; rfl
          rw [← hp] at hl16 ⊢
          clear hp
          go_wp2_with (go_at_call 25; refine (isDyckS p _ (by omega)).mono ?_; rintro e w1 ⟨rfl, rfl⟩)
          go_ret2
          exact ⟨by rw [HF.out, HV.out]; rfl, Below.refl _ _⟩
  · have HF : Hid (pobV s.data.toList = none) := pob_long _ (by simpa using h16)
    go_enter Try.func70, Try.ntmps70
    go_wp2_with fail
    refine wp_loop_rounds 1 ?_
    rw [rounds_succ]
    go_wp2
    all_goals
      go_ret2
      exact ⟨by rw [HF.out]; rfl, Below.refl _ _⟩
set_option maxRecDepth 100000 in
theorem law_FnExactPathOfBrackets (s : ByteArray) (w : World) (hs : s.size ≤ maxLen) : Calls Try.prog 20 #[.string s] w fun e w' => e = .returned (.bool true) ∧ Below w.heap.size w w' := by
  unfold maxLen at hs
  by_cases hb : s.size ≤ 1048576
  · have HS := Lib.hid (fun w => pobS s w hb)
    have HI := Lib.hid (fun w => pobI s w hb)
    obtain ⟨o, ho⟩ : ∃ o, o = pobV s.data.toList := ⟨_, rfl⟩
    rw [← ho] at HS HI
    clear ho
    cases o with
    | none =>
      unfold strB at HS HI
      go_enter Try.func20, Try.ntmps20
      go_wp2_with fail
      refine (HS.out _).mono ?_
      rintro e w1 ⟨rfl, h1⟩
      go_wp2_with fail
      refine (HI.out _).mono ?_
      rintro e w2 ⟨rfl, h2⟩
      go_wp2_with fail
      go_ret
      exact ⟨rfl, below_then h1 h2⟩
    | some x =>
      unfold strB at HS HI
      go_enter Try.func20, Try.ntmps20
      go_wp2_with fail
      refine (HS.out _).mono ?_
      rintro e w1 ⟨rfl, h1⟩
      go_wp2_with fail
      refine (HI.out _).mono ?_
      rintro e w2 ⟨rfl, h2⟩
      go_wp2_with fail
      go_ret
      exact ⟨rfl, below_then h1 h2⟩
  · go_enter Try.func20, Try.ntmps20
    go_wp2
    go_ret
    exact ⟨rfl, Below.refl _ _⟩
end Go.Proofs.Ytfpdkjoimmociaa
