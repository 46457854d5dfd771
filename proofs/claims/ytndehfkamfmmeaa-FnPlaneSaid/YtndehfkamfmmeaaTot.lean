/-
  laws.total, walked: the sum of a short row of small numbers.
-/
import Derived.Test.YtndehfkamfmmeaaPlF
import Derived.Test.YtndehfkamfmmeaaPlH
namespace Go.Proofs.Ytndehfkamfmmeaa
open Go.RowKit
theorem tot_take (l : List Int) (k : Nat) (h : k < l.length) : tot (l.take (k + 1)) = tot (l.take k) + l.getD k 0 := by
  rw [List.take_succ_eq_append_getElem h, tot_app]
  simp [tot, List.getD, h]
theorem tot_bound (l : List Int) (hx : ∀ x ∈ l, 0 ≤ x ∧ x ≤ 16) : ∀ k, k ≤ l.length → 0 ≤ tot (l.take k) ∧ tot (l.take k) ≤ 16 * k := by
  intro k
  induction k with
  | zero => intro _; simp [tot]
  | succ k ih =>
    intro h
    have h1 := ih (by omega)
    have h2 := hx (l.getD k 0) (by rw [List.getD_eq_getElem?_getD, List.getElem?_eq_getElem (by omega)]; exact List.getElem_mem _)
    rw [tot_take l k (by omega)]
    omega
set_option maxRecDepth 100000 in
theorem totalC (A : Option Addr) (c : Nat) (l : List Int) (w : World) (ha : Rd .i64 w A l) (hx : ∀ x ∈ l, 0 ≤ x ∧ x ≤ 16) (hn : l.length ≤ 1000) :
    Calls Try.prog 38 #[.slice A l.length c] w fun e w' => e = .returned (.int .i64 (tot l)) ∧ Below w.heap.size w w' := by
  obtain ⟨n, hnn⟩ : ∃ n, n = l.length := ⟨_, rfl⟩
  have HB := Lib.hid (tot_bound l hx)
  rw [← hnn] at hn ⊢
  have HN := Lib.hid hnn
  have HA := Lib.hid ha
  clear hnn ha hx
  go_enter Try.func38, Try.ntmps38
  go_wp2
  go_loopw [4, 3] (fun i t wr => ∃ k : Nat, k ≤ n ∧ i = .int .i64 k ∧ t = .int .i64 (tot (l.take k)) ∧ Hid (∃ m, wr = w.drewN m)) (fun i _ _ => n - (intOf i).toNat)
  case atStart => exact ⟨0, Nat.zero_le _, rfl, rfl, 0, rfl⟩
  case round =>
    obtain ⟨k, hk, rfl, rfl, HW⟩ := hrel
    have hb := HB.out k (by rw [← HN.out]; exact hk)
    by_cases hlt : k < n
    · obtain ⟨b1, o1, rfl, _, hc1⟩ := HA.out k (by rw [← HN.out]; exact hlt)
      have hb2 := HB.out (k + 1) (by rw [← HN.out]; exact hlt)
      have ht := tot_take l k (by rw [← HN.out]; exact hlt)
      obtain ⟨m, rfl⟩ := HW.out
      obtain ⟨x, hx⟩ : ∃ x, x = l.getD k 0 := ⟨_, rfl⟩
      obtain ⟨y, hy⟩ : ∃ y, y = tot (l.take k) := ⟨_, rfl⟩
      rw [← hx] at hc1 ht
      rw [← hy] at hb ht ⊢
      rw [ht] at hb2
      have HT := Lib.hid ht
      have hlt' : (k : Int) < (n : Int) := by omega
      have hk0 : (0 : Int) ≤ (k : Int) := by omega
      clear hx hy ht
      go_wp2_with fail
      refine ⟨⟨k + 1, by omega, by go_num, by rw [HT.out], _, rfl⟩, ?_⟩
      simp [intOf]; omega
    · obtain ⟨m, rfl⟩ := HW.out
      have hkn : k = l.length := by rw [← HN.out]; omega
      have he : tot (l.take k) = tot l := by rw [hkn, List.take_length]
      rw [he] at hb ⊢
      clear hkn he
      go_wp2
      go_ret
      exact ⟨rfl, below_drewN (Below.refl _ _) _⟩
end Go.Proofs.Ytndehfkamfmmeaa
