/-
  The integer encodings lead back, in plain Lean.
-/
import Derived.Test.YtndehfkamfmmeaaVarP
import Derived.Test.YtndehfkamfmmeaaFix
import Derived.Test.YtndehfkamfmmeaaFixE
import Derived.Test.YtndehfkamfmmeaaHexD
import Derived.Test.YtndehfkamfmmeaaParsP
namespace Go.Proofs.Ytndehfkamfmmeaa
open Go.RowKit
theorem p128 : (128 : Nat) ^ (6 + 1) = 562949953421312 := by decide
theorem p1020 : (10 : Nat) ^ 20 = 100000000000000000000 := by decide
theorem p109 : (10 : Nat) ^ 9 = 1000000000 := by decide
def bts (xs : List Int) : List UInt8 := xs.map (fun n => UInt8.ofNat n.toNat)
theorem bts_data (xs : List Int) : (strOfNums xs).data.toList = bts xs := by simp [strOfNums, bts]
theorem bts_len (xs : List Int) : (bts xs).length = xs.length := by simp [bts]
theorem bts_cons (x : Int) (xs : List Int) : bts (x :: xs) = UInt8.ofNat x.toNat :: bts xs := rfl
theorem bts_app (a b : List Int) : bts (a ++ b) = bts a ++ bts b := by simp [bts]
theorem u8_nat (n : Nat) (h : n < 256) : (UInt8.ofNat ((n : Int)).toNat).toNat = n := by rw [UInt8.toNat_ofNat']; omega
theorem var_facts : ∀ (g n f : Nat), g ≤ f → n < 128 ^ (g + 1) → 1 ≤ (bts (encV (f + 1) n)).length ∧ (bts (encV (f + 1) n)).length ≤ g + 1 ∧ lowV (bts (encV (f + 1) n)) = n ∧ (∀ i, i + 1 < (bts (encV (f + 1) n)).length → 128 ≤ ((bts (encV (f + 1) n)).getD i 0).toNat) ∧ ((bts (encV (f + 1) n)).getD ((bts (encV (f + 1) n)).length - 1) 0).toNat < 128 := by
  have small : ∀ (g n f : Nat), n < 128 → 1 ≤ (bts (encV (f + 1) n)).length ∧ (bts (encV (f + 1) n)).length ≤ g + 1 ∧ lowV (bts (encV (f + 1) n)) = n ∧ (∀ i, i + 1 < (bts (encV (f + 1) n)).length → 128 ≤ ((bts (encV (f + 1) n)).getD i 0).toNat) ∧ ((bts (encV (f + 1) n)).getD ((bts (encV (f + 1) n)).length - 1) 0).toNat < 128 := by
    intro g n f h
    have e : bts (encV (f + 1) n) = [UInt8.ofNat ((n : Int)).toNat] := by rw [encV_small _ _ h]; rfl
    have hn := u8_nat n (by omega)
    rw [e]
    refine ⟨by simp, by simp, ?_, ?_, ?_⟩
    · simp only [lowV, hn]; omega
    · intro i hi; simp at hi
    · show (UInt8.ofNat ((n : Int)).toNat).toNat < 128
      rw [hn]; exact h
  intro g
  induction g with
  | zero => intro n f _ h; exact small 0 n f (by simpa using h)
  | succ g ih =>
    intro n f hf h
    by_cases hn : n < 128
    · exact small (g + 1) n f hn
    · obtain ⟨f, rfl⟩ : ∃ k, f = k + 1 := ⟨f - 1, by omega⟩
      obtain ⟨h1, h2, h3, h4, h5⟩ := ih (n / 128) f (by omega) (by rw [Nat.pow_succ] at h; omega)
      have e : bts (encV (f + 1 + 1) n) = UInt8.ofNat (((n % 128 + 128 : Nat) : Int)).toNat :: bts (encV (f + 1) (n / 128)) := by rw [encV_big _ _ hn]; rfl
      have hx := u8_nat (n % 128 + 128) (by omega)
      rw [e]
      generalize bts (encV (f + 1) (n / 128)) = b at h1 h2 h3 h4 h5 ⊢
      generalize UInt8.ofNat (((n % 128 + 128 : Nat) : Int)).toNat = x at hx ⊢
      refine ⟨by simp, by simp; omega, ?_, ?_, ?_⟩
      · simp only [lowV, h3, hx]; omega
      · intro i hi
        rw [List.length_cons] at hi
        cases i with
        | zero => show 128 ≤ x.toNat; omega
        | succ i => exact h4 i (by omega)
      · rw [List.length_cons, Nat.add_sub_cancel]
        obtain ⟨k, hk⟩ : ∃ k, b.length = k + 1 := ⟨b.length - 1, by omega⟩
        rw [hk] at h5 ⊢
        exact h5
theorem dec_enc (n : Nat) (h : n ≤ 562949953421311) (tail : List UInt8) : decV (bts (encV 8 n) ++ tail) = some (n, (encV 8 n).length) := by
  obtain ⟨h1, h2, h3, h4, h5⟩ := var_facts 6 n 7 (by decide) (by rw [p128]; omega)
  have hl := bts_len (encV 8 n)
  have hm : strOfNums (encV 8 n) = ⟨⟨bts (encV 8 n)⟩⟩ := rfl
  have h3' : lowV (bts (encV 8 n)) = n := h3
  have h1' : 1 ≤ (bts (encV 8 n)).length := h1
  have h2' : (bts (encV 8 n)).length ≤ 7 := h2
  have h4' : ∀ i, i + 1 < (bts (encV 8 n)).length → 128 ≤ ((bts (encV 8 n)).getD i 0).toNat := h4
  have h5' : ((bts (encV 8 n)).getD ((bts (encV 8 n)).length - 1) 0).toNat < 128 := h5
  clear h1 h2 h3 h4 h5
  rw [← hl]
  generalize bts (encV 8 n) = b at *
  have hget : ∀ i, i < b.length → (b ++ tail).getD i 0 = b.getD i 0 := by
    intro i hi; simp [List.getD, List.getElem?_append_left hi]
  have hj : b.length - 1 + 1 = b.length := by omega
  have ht : (b ++ tail).take b.length = b := by simp
  rw [dec_at (b ++ tail) (b.length - 1) (by omega) (by rw [List.length_append]; omega) (by intro i hi; rw [hget i (by omega)]; exact h4' i (by omega)) (by rw [hget _ (by omega)]; exact h5'), hj, ht, h3']
  refine if_pos ?_
  unfold matchAt
  rw [ht, h3']
  exact hm
theorem low_fold : ∀ (r n acc : Nat), (bts (lowB n r)).foldl (fun n b => n * 256 + b.toNat) acc = acc * 256 ^ r + n % 256 ^ r := by
  intro r
  induction r with
  | zero => intro n acc; simp [lowB, bts, Nat.mod_one]
  | succ r ih =>
    intro n acc
    have hx := u8_nat (n / 256 ^ r % 256) (by omega)
    show (UInt8.ofNat (((n / 256 ^ r % 256 : Nat) : Int)).toNat :: bts (lowB n r)).foldl _ acc = _
    rw [List.foldl_cons, ih, hx, Nat.pow_succ, Nat.mod_mul, Nat.add_mul, Nat.mul_assoc, Nat.mul_comm 256 (256 ^ r), Nat.mul_comm (n / 256 ^ r % 256)]
    omega
theorem decF_low (n m : Nat) (h : n < 256 ^ m) : decF (bts (lowB n m)) = n := by
  unfold decF; rw [low_fold, Nat.mod_eq_of_lt h]; omega
theorem hexDig_range (k : Nat) (h : k < 16) : 0 ≤ hexDig k ∧ hexDig k < 256 := by unfold hexDig; split <;> omega
theorem hexv_back (k : Nat) (h : k < 16) : hexv (UInt8.ofNat (hexDig k).toNat).toNat = k := by
  have hr := hexDig_range k h
  refine hexv_dig _ k h ?_
  rw [UInt8.toNat_ofNat']; omega
theorem hex_back : ∀ l : List UInt8, decH (bts (hexEnc l)) = some (l.map fun b => (b.toNat : Int)) := by
  intro l
  induction l with
  | nil => rfl
  | cons b l ih =>
    have hb := b.toNat_lt
    have h1 := hexv_back (b.toNat / 16) (by omega)
    have h2 := hexv_back (b.toNat % 16) (by omega)
    show decH (UInt8.ofNat (hexDig (b.toNat / 16)).toNat :: UInt8.ofNat (hexDig (b.toNat % 16)).toNat :: bts (hexEnc l)) = _
    rw [decH_good _ _ _ (by rw [h1, h2]; omega), ih, h1, h2]
    simp only [Option.map_some, List.map_cons, Option.some.injEq, List.cons.injEq, and_true]
    omega
theorem str_back (s : ByteArray) : strOfNums (s.data.toList.map fun b => (b.toNat : Int)) = s := by
  apply ByteArray.ext
  apply Array.toList_inj.mp
  simp [strOfNums, Function.comp_def]
theorem dig_le : ∀ (k f a : Nat), a < 10 ^ k → (dig f a).length ≤ k := by
  intro k
  induction k with
  | zero => intro f a h; have : a = 0 := by simpa using h
            subst this; rw [dig_zero]; simp
  | succ k ih =>
    intro f a h
    by_cases h0 : a = 0
    · subst h0; rw [dig_zero]; simp
    · cases f with
      | zero => simp [dig]
      | succ f =>
        rw [dig_pos _ _ h0, List.length_cons]
        have := ih f (a / 10) (by rw [Nat.pow_succ] at h; omega)
        omega
theorem dig_ge : ∀ (k f a : Nat), k < f → 10 ^ k ≤ a → k + 1 ≤ (dig f a).length := by
  intro k
  induction k with
  | zero => intro f a hf h
            obtain ⟨f, rfl⟩ : ∃ j, f = j + 1 := ⟨f - 1, by omega⟩
            rw [dig_pos _ _ (by simp at h; omega)]; simp
  | succ k ih =>
    intro f a hf h
    obtain ⟨f, rfl⟩ : ∃ j, f = j + 1 := ⟨f - 1, by omega⟩
    have hp : 0 < 10 ^ k := Nat.pow_pos (by decide)
    rw [Nat.pow_succ] at h
    rw [dig_pos _ _ (by omega), List.length_cons]
    have := ih f (a / 10) (by omega) (by omega)
    omega
theorem sum_app : ∀ (l r : List UInt8) (n : Int), sumD n (l ++ r) = sumD (sumD n l) r := by
  intro l
  induction l with
  | nil => intro r n; rfl
  | cons c l ih => intro r n; exact ih r _
theorem sum_dig : ∀ (f a : Nat), a < 10 ^ f → sumD 0 (bts (dig f a).reverse) = a := by
  intro f
  induction f with
  | zero => intro a h; have : a = 0 := by simpa using h
            subst this; rfl
  | succ f ih =>
    intro a h
    by_cases h0 : a = 0
    · subst h0; rw [dig_zero]; rfl
    · rw [dig_pos _ _ h0, List.reverse_cons, bts_app, sum_app, ih (a / 10) (by rw [Nat.pow_succ] at h; omega)]
      have hx := u8_nat (48 + a % 10) (by omega)
      show sumD (((a / 10 : Nat) : Int)) [UInt8.ofNat (((48 + a % 10 : Nat) : Int)).toNat] = _
      generalize UInt8.ofNat (((48 + a % 10 : Nat) : Int)).toNat = c at hx ⊢
      have hd : dg c = true := by unfold dg; rw [decide_eq_true_eq]; omega
      simp only [sumD, if_pos hd]
      omega
theorem bts_dg (ds : List Int) (h : ∀ d ∈ ds, 48 ≤ d ∧ d ≤ 57) : ∀ c ∈ bts ds, dg c = true := by
  intro c hc
  obtain ⟨d, hd, rfl⟩ := List.mem_map.mp hc
  have := h d hd
  unfold dg
  rw [decide_eq_true_eq, UInt8.toNat_ofNat']
  omega
theorem parse_fmt (w : Int) (h1 : -9223372036854775808 ≤ w) (h2 : w ≤ 9223372036854775807) : parS (bts (fmt w)) = if -1000000000 < w ∧ w < 1000000000 then some w else none := by
  by_cases h0 : w = 0
  · subst h0; decide
  · have hf : fmt w = sgn w ++ (dig 20 w.natAbs).reverse := by unfold fmt; rw [if_neg h0]
    have hds : ∀ d ∈ (dig 20 w.natAbs).reverse, 48 ≤ d ∧ d ≤ 57 := fun d hd => dig_digits _ _ d (List.mem_reverse.mp hd)
    have hdg := bts_dg _ hds
    have hsum := sum_dig 20 w.natAbs (by rw [p1020]; omega)
    have hlen : (bts (dig 20 w.natAbs).reverse).length = (dig 20 w.natAbs).length := by simp [bts]
    have hpos : 1 ≤ (dig 20 w.natAbs).length := by
      rw [dig_pos _ _ (by omega)]; simp
    have hle : w.natAbs < 1000000000 → (dig 20 w.natAbs).length ≤ 9 := fun h => dig_le 9 20 _ (by rw [p109]; omega)
    have hge : 1000000000 ≤ w.natAbs → 10 ≤ (dig 20 w.natAbs).length := fun h => dig_ge 9 20 _ (by decide) (by rw [p109]; omega)
    obtain ⟨l, hl⟩ : ∃ l, l = bts (fmt w) := ⟨_, rfl⟩
    have hm : strOfNums (fmt w) = ⟨⟨l⟩⟩ := by rw [hl]; rfl
    rw [← hl]
    rw [hf, bts_app] at hl
    obtain ⟨b, hb⟩ : ∃ b, b = bts (dig 20 w.natAbs).reverse := ⟨_, rfl⟩
    rw [← hb] at hl hdg hsum hlen
    have hdrop : l.drop (atL l) = b ∧ (l.head? = some 45 ↔ w < 0) := by
      by_cases hw : w < 0
      · have hs : sgn w = [45] := if_pos hw
        rw [hs] at hl
        have hl2 : l = 45 :: b := hl
        have hh : l.head? = some 45 := by rw [hl2]; rfl
        refine ⟨?_, by simp [hh, hw]⟩
        unfold atL; rw [if_pos hh, hl2]; rfl
      · have hs : sgn w = [] := if_neg hw
        rw [hs] at hl
        have hl2 : l = b := hl
        have hh : ¬ l.head? = some 45 := by
          intro hc
          have := hdg 45 (by rw [← hl2]; exact List.mem_of_head? hc)
          revert this; decide
        refine ⟨?_, by simp [hh, hw]⟩
        unfold atL; rw [if_neg hh, hl2]; rfl
    by_cases hbig : 1000000000 ≤ w.natAbs
    · rw [if_neg (by omega)]
      exact parS_long l (.inr (by rw [hdrop.1]; have := hge hbig; omega))
    · rw [if_pos (by omega)]
      obtain ⟨g1, g2⟩ := parS_good l (by rw [hdrop.1]; exact hdg) (by rw [hdrop.1]; have := hle (by omega); omega)
      have hp : parN l = w := by
        rw [g1, hdrop.1, hsum]
        by_cases hw : w < 0
        · rw [if_pos (hdrop.2.mpr hw)]; omega
        · rw [if_neg (fun h => hw (hdrop.2.mp h))]; omega
      rw [g2, hp, if_pos hm]
end Go.Proofs.Ytndehfkamfmmeaa
