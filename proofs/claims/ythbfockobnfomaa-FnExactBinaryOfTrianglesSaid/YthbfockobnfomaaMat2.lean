/-
  markIntSS, walked: only the rows' own blocks are changed.
-/
import Derived.Test.YthbfockobnfomaaMat
namespace Go.Proofs.Ythbfockobnfomaa
open Go.RowKit
/-- Nothing is changed but blocks from lo on and below hi. -/
structure Span (lo hi : Nat) (w w' : World) : Prop where
  os : w'.os = w.os
  tape : w'.tape = w.tape
  output : w'.output = w.output
  size : w.heap.size ≤ w'.heap.size
  block : ∀ k, k < w.heap.size → (k < lo ∨ hi ≤ k) → w'.heap[k]? = w.heap[k]?
theorem Span.refl (lo hi : Nat) (w : World) : Span lo hi w w := ⟨rfl, rfl, rfl, Nat.le_refl _, fun _ _ _ => rfl⟩
theorem Span.then_ {lo hi : Nat} {w a b : World} (h : Span lo hi w a) (k : Span lo hi a b) : Span lo hi w b :=
  ⟨k.os.trans h.os, k.tape.trans h.tape, k.output.trans h.output, Nat.le_trans h.size k.size, fun i h1 h2 => (k.block i (Nat.lt_of_lt_of_le h1 h.size) h2).trans (h.block i h1 h2)⟩
theorem Span.of_grown {lo hi : Nat} {w w' : World} {row : Option Nat} (h : w.grownBy w' row) (hr : ∀ g, row = some g → lo ≤ g ∧ g < hi) : Span lo hi w w' :=
  ⟨h.os, h.tape, h.output, h.size, fun k h1 h2 => h.block k h1 (fun e => by have := hr k e.symm; omega)⟩
theorem Span.below {hi : Nat} {w0 w w' : World} (h : Span w0.heap.size hi w w') (hb : w0.heap.size ≤ w.heap.size) : Below w0.heap.size w w' :=
  ⟨h.os, h.tape, h.output, h.size, fun k hk => h.block k (by omega) (.inl hk)⟩
theorem Buf.span {hi : Nat} {w0 w w' : World} {e : TypeId} {v : Value} {xs : List Value} (h : Buf w0 w e v xs) (hs : Span w0.heap.size hi w w') (hv : ∀ g, v.ownBlock = some g → hi ≤ g) : Buf w0 w' e v xs := by
  refine ⟨⟨h.own.1, ?_⟩, h.bel.trans (hs.below h.bel.size)⟩
  rcases h.own.2 with hn | ⟨g, cap, cur, hv2, hg, hh, rest⟩
  · exact .inl hn
  · refine .inr ⟨g, cap, cur, hv2, hg, ?_, rest⟩
    have h1 : v.ownBlock = some g := by rw [hv2]; rfl
    rw [hs.block g (h.own.lt g h1).2 (.inr (hv g h1))]; exact hh
def MkR (lo hi : Nat) (w : World) (e : Ending) (w' : World) : Prop := (∃ t : Nat, t ≤ 1048576 ∧ e = .returned (.int .i64 (1 + (t : Int)))) ∧ Span lo hi w w'

set_option maxRecDepth 100000 in
set_option maxHeartbeats 1000000 in
theorem markIntSS (A : Option Addr) (n c M : Nat) (rs : List Value) (zss : List (List Int)) (w0 w : World) (hl : zss.length = n) (hO : OwnM w0 w (.slice A n c) rs zss) (hn : n + szRest zss ≤ 1048576) (hM : ∀ (i : Nat) (r : Value) (g : Nat), rs[i]? = some r → r.ownBlock = some g → g < M) :
    Calls Try.prog 52 #[.slice A n c, .int .i64 1] w (MkR w0.heap.size M w) := by
  have HM := Lib.hid hM
  have hrl : rs.length = n := by rw [hO.rows.1, hl]
  have HL := Lib.hid hl
  have HRL := Lib.hid hrl
  have HO := Lib.hid hO
  clear hM hl hrl hO
  go_enter Try.func52, Try.ntmps52
  go_wp2
  go_loopw [5, 1] (fun i k wr => ∃ (j t : Nat) (zs : List (List Int)), j ≤ n ∧ i = .int .i64 (j : Int) ∧ k = .int .i64 (1 + (t : Int)) ∧ t ≤ 1048576 ∧ Hid (t + szRest (zs.drop j) ≤ szRest zss) ∧ Hid (zs.length = n) ∧ Hid (OwnM w0 wr (.slice A n c) rs zs) ∧ Hid (Span w0.heap.size M w wr)) (fun i _ _ => n - (intOf i).toNat)
  case atStart => exact ⟨0, 0, zss, by omega, rfl, rfl, by omega, (by show _ ≤ _; rw [List.drop_zero]; omega), HL.out, HO.out, Span.refl _ _ _⟩
  case round =>
    obtain ⟨j, t, zs, hj, rfl, rfl, ht, HS, HZL, HOr, HSp⟩ := hrel
    by_cases hlt : j < n
    · obtain ⟨r, hr⟩ : ∃ r, rs[j]? = some r := ⟨_, List.getElem?_eq_getElem (by rw [HRL.out]; exact hlt)⟩
      have hjz : j < zs.length := by rw [HZL.out]; exact hlt
      have hzj : zs[j]? = some (zs.getD j []) := by simp [List.getD, hjz]
      have hdk : zs.drop j = zs.getD j [] :: zs.drop (j + 1) := by rw [List.drop_eq_getElem_cons hjz]; simp [List.getD, hjz]
      have hs := HS.out
      rw [hdk] at hs
      obtain ⟨z, hz⟩ : ∃ z, z = zs.getD j [] := ⟨_, rfl⟩
      rw [← hz] at hzj hs
      have hBz := HOr.out.rows.2 j r z hr hzj
      obtain ⟨Aj, cj, hrv, _⟩ := hBz.value
      have hs2 : t + (z.length + szRest (zs.drop (j + 1))) ≤ szRest zss := by simpa [szRest] using hs
      obtain ⟨m, hm⟩ : ∃ m, m = z.length := ⟨_, rfl⟩
      rw [← hm] at hrv hs2
      subst hrv
      obtain ⟨g, rfl⟩ := HOr.out.outer.some_ (by omega)
      have hc := HOr.out.outer.cellAt j hlt
      rw [hr] at hc
      have HMk := Lib.hid (markIntG Aj m cj z (1 + t) w0 wr hm.symm hBz (by omega) (by omega))
      rw [show ((1 + t : Nat) : Int) = 1 + (t : Int) by omega] at HMk
      have HR := Lib.hid hr
      have HMm := Lib.hid hm
      have HZJ := Lib.hid hzj
      have HS2 := Lib.hid hs2
      have htm : t + m ≤ 1048576 := by omega
      have hbz := hBz.own.lt
      have HBZ := Lib.hid hbz
      clear hr hs hs2 hz hm hzj hdk hBz hbz HS hjz
      go_wp2_with fail
      refine (HMk.out).mono ?_
      rintro e w2 ⟨rfl, hB2, hg2⟩
      have HSp2 : Hid (Span w0.heap.size M w w2) := by
        refine HSp.out.then_ (Span.of_grown hg2 ?_)
        intro q hq
        exact ⟨(HBZ.out q hq).1, HM.out j _ q HR.out hq⟩
      have HO2 : Hid (OwnM w0 w2 (.slice (some ⟨g, 0, none⟩) n c) rs (zs.set j (marks ((1 + t : Nat) : Int) m))) := by
        have h0 := HOr.out
        refine ⟨?_, ⟨by rw [List.length_set]; exact h0.rows.1, ?_⟩, h0.apart⟩
        · refine h0.outer.kept_ hg2 (.inr ?_) (fun q hq => (HBZ.out q hq).1)
          intro he
          have := h0.outer.ne_ (h0.rows.2 j _ z HR.out HZJ.out) (by decide) (g := g) rfl
          exact this he.symm
        · intro i s y h1 h2
          by_cases hij : i = j
          · subst hij
            rw [HR.out] at h1
            have hi' : i < zs.length := by rw [HZL.out]; exact hlt
            rw [List.getElem?_set_self hi'] at h2
            simp at h1 h2
            subst h1; subst h2
            exact hB2
          · rw [List.getElem?_set_ne (fun h => hij h.symm)] at h2
            have hBi := h0.rows.2 i s y h1 h2
            refine hBi.kept_ hg2 ?_ (fun q hq => (HBZ.out q hq).1)
            rcases Nat.lt_or_gt_of_ne hij with h | h
            · exact h0.apart i j _ _ h h1 HR.out
            · rcases h0.apart j i _ _ h HR.out h1 with h3 | h3
              · cases hq : s.ownBlock with
                | none => exact .inl rfl
                | some q => right; rw [h3]; simp
              · exact .inr (fun e => h3 e.symm)
      have HS3 : Hid ((t + m) + szRest ((zs.set j (marks ((1 + t : Nat) : Int) m)).drop (j + 1)) ≤ szRest zss) := by
        show _ ≤ _
        have : (zs.set j (marks ((1 + t : Nat) : Int) m)).drop (j + 1) = zs.drop (j + 1) := by
          rw [List.drop_set_of_lt (by omega)]
        rw [this]
        have := HS2.out; omega
      have HZL2 : Hid ((zs.set j (marks ((1 + t : Nat) : Int) m)).length = n) := by show _ = _; rw [List.length_set]; exact HZL.out
      clear hB2 hg2 HOr HSp HZL HS2
      go_wp2_with fail
      go_roundw
      case rel => exact ⟨j + 1, t + m, _, by omega, by go_num, by go_num, htm, HS3.out, HZL2.out, HO2.out, HSp2.out⟩
      case measure => simp [intOf]; omega
    · go_wp2
      go_ret
      exact ⟨⟨t, ht, rfl⟩, HSp.out⟩
end Go.Proofs.Ythbfockobnfomaa
