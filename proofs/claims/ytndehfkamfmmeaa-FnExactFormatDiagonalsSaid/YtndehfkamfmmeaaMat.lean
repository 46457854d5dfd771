/-
  The helpers of the laws on [][]int: szIntSS, toIntSS, eqIntSS, markIntSS, walked; what a slice of slices of numbers reads as, and one of the call's own.
-/
import Derived.Test.YtndehfkamfmmeaaIntArg
import Derived.Test.YtndehfkamfmmeaaPlH
import Derived.Test.YtndehfkamfmmeaaMark
import Derived.Deep.Matrix
namespace Go.Proofs.Ytndehfkamfmmeaa
open Go.RowKit Go.ChangeShapes Go.WideShapes
theorem elRow : Elem Try.prog 44 22 (.slice none 0 0) 24 := ⟨Try.underlying44, by kernel_rfl, rfl, by decide⟩
/-- A slice of slices of numbers reads as zss. -/
def RdM (w : World) (A : Option Addr) (zss : List (List Int)) : Prop :=
  ∀ i, i < zss.length → ∃ b o Ai ci, A = some ⟨b, o, none⟩ ∧ b < w.heap.size ∧ w.cell? ⟨b, o + i, none⟩ = some (.slice Ai (zss.getD i []).length ci) ∧ (zss.getD i []).length ≤ maxLen ∧ Rd .i64 w Ai (zss.getD i [])
theorem RdM.keep {w w' : World} {A : Option Addr} {zss : List (List Int)} (h : RdM w A zss) (hb : Below w.heap.size w w') : RdM w' A zss := by
  intro i hi
  obtain ⟨b, o, Ai, ci, hA, hlt, hc, hm, hr⟩ := h i hi
  exact ⟨b, o, Ai, ci, hA, Nat.lt_of_lt_of_le hlt hb.size, (hb.cell (p := ⟨b, o + i, none⟩) hlt).trans hc, hm, hr.keep hb⟩
theorem RdM.form {w : World} {A : Option Addr} {zss : List (List Int)} (h : RdM w A zss) (h0 : 0 < zss.length) : ∃ b o, A = some ⟨b, o, none⟩ := by
  obtain ⟨b, o, _, _, hA, _⟩ := h 0 h0
  exact ⟨b, o, hA⟩
theorem RdM.at_ {w : World} {b o : Nat} {zss : List (List Int)} (h : RdM w (some ⟨b, o, none⟩) zss) (i : Nat) (hi : i < zss.length) : ∃ Ai ci, w.cell? ⟨b, o + i, none⟩ = some (.slice Ai (zss.getD i []).length ci) ∧ (zss.getD i []).length ≤ maxLen ∧ Rd .i64 w Ai (zss.getD i []) := by
  obtain ⟨b', o', Ai, ci, hA, _, hc, hm, hr⟩ := h i hi
  simp only [Option.some.injEq, Addr.mk.injEq, and_true] at hA
  obtain ⟨rfl, rfl⟩ := hA
  exact ⟨Ai, ci, hc, hm, hr⟩
/-- An argument that reads as zss. -/
def Mat (w : World) (A : Option Addr) (len : Nat) (zss : List (List Int)) : Prop := zss.length = len ∧ len ≤ maxLen ∧ RdM w A zss
theorem mat_open {H : Type} {enc : TypeId × Value → H} {P : Program} {w : World} {base : Nat} {held : Bool} {t e q : TypeId} {A : Option Addr} {len cap : Nat} {d : DataW H} {p : List MemPlace}
    (ht : P.underlying t = some (.slice e)) (he : P.underlying e = some (.slice q)) (hq : P.underlying q = some (.int .i64)) (ce : P.cellsOf e = 1) (cq : P.cellsOf q = 1)
    (h : DataW.Trod enc P w base (fun _ => true) held t (.slice A len cap) d p) : ∃ zss, Mat w A len zss := by
  obtain ⟨fuel, hf⟩ := h
  rcases Go.Deep.open_int_rows ht he hq ce cq hf with ⟨hcs, _⟩ | ⟨a, l, c, As, L, C, Z, hcs, _, hl, hm, _, hr⟩
  · simp [Value.cells] at hcs
    obtain ⟨rfl, rfl, rfl⟩ := hcs
    exact ⟨[], rfl, Nat.zero_le _, fun i hi => absurd hi (by simp)⟩
  · simp [Value.cells] at hcs
    obtain ⟨rfl, rfl, rfl⟩ := hcs
    refine ⟨(List.range len).map fun r => (Z r).take (L r), by simp, by omega, ?_⟩
    intro i hi
    have hi' : i < len := by simpa using hi
    have hz : ((List.range len).map fun r => (Z r).take (L r)).getD i [] = (Z i).take (L i) := by simp [List.getD, hi']
    rw [hz]
    obtain ⟨h1, h2, h3, h4, _, h6, h7⟩ := hr i (by omega)
    have hlen : ((Z i).take (L i)).length = L i := by rw [List.length_take]; omega
    rw [hlen]
    obtain ⟨b, o, sp⟩ := a
    have hsp : sp = none := (cell_at (hr 0 (by omega)).1).1
    subst hsp
    rw [Addr.add_lit] at h1
    refine ⟨b, o, As i, C i, rfl, (cell_at h1).2, h1, by omega, ?_⟩
    intro j hj
    rw [hlen] at hj
    cases hA : As i with
    | none => have := h6 hA; omega
    | some a' =>
      obtain ⟨_, hcell⟩ := h7 a' hA
      have h8 := hcell j (by omega)
      obtain ⟨b2, o2, sp2⟩ := a'
      have hsp2 : sp2 = none := (cell_at (hcell 0 (by omega))).1
      subst hsp2
      rw [Addr.add_lit] at h8
      refine ⟨b2, o2, rfl, (cell_at h8).2, ?_⟩
      rw [h8]
      simp [List.getD, hj]

/-- Rows of the call's own. -/
def Rows_ (w0 w : World) (rs : List Value) (zss : List (List Int)) : Prop := rs.length = zss.length ∧ ∀ (i : Nat) (r : Value) (z : List Int), rs[i]? = some r → zss[i]? = some z → Buf w0 w 3 r (z.map (Value.int .i64))
/-- Rows in blocks of their own. -/
def Apart (rs : List Value) : Prop := ∀ (i j : Nat) (r s : Value), i < j → rs[i]? = some r → rs[j]? = some s → r.ownBlock = none ∨ r.ownBlock ≠ s.ownBlock
structure OwnM (w0 w : World) (v : Value) (rs : List Value) (zss : List (List Int)) : Prop where
  outer : Buf w0 w 22 v rs
  rows : Rows_ w0 w rs zss
  apart : Apart rs
theorem OwnM.after {w0 w w' : World} {v : Value} {rs : List Value} {zss : List (List Int)} (h : OwnM w0 w v rs zss) (hb : Below w.heap.size w w') : OwnM w0 w' v rs zss :=
  ⟨h.outer.after hb, ⟨h.rows.1, fun i r z h1 h2 => (h.rows.2 i r z h1 h2).after hb⟩, h.apart⟩
theorem Buf.maxm {w0 w : World} {e : TypeId} {A : Option Addr} {n c : Nat} {xs : List Value} (h : Buf w0 w e (.slice A n c) xs) : n ≤ maxLen := by
  rcases h.own.2 with ⟨h', h0⟩ | ⟨g, cap', cur, h', _, _, hnc, hm, _⟩
  · simp only [Value.slice.injEq] at h'; omega
  · simp only [Value.slice.injEq] at h'; omega
theorem OwnM.rd {w0 w : World} {A : Option Addr} {n c : Nat} {rs : List Value} {zss : List (List Int)} (h : OwnM w0 w (.slice A n c) rs zss) : RdM w A zss := by
  intro i hi
  have hl := h.rows.1
  have hpos : 0 < rs.length := by omega
  obtain ⟨g, cap, hv⟩ := h.outer.form hpos
  simp only [Value.slice.injEq] at hv
  obtain ⟨rfl, hn, rfl⟩ := hv
  subst hn
  obtain ⟨r, hr⟩ : ∃ r, rs[i]? = some r := ⟨_, List.getElem?_eq_getElem (by omega)⟩
  have hz : zss[i]? = some (zss.getD i []) := by simp [List.getD, hi]
  have hB := h.rows.2 i r _ hr hz
  obtain ⟨Ai, ci, rfl, hrd⟩ := hB.value
  have hc := h.outer.cellAt i (by omega)
  rw [hr] at hc
  exact ⟨g, 0, Ai, ci, rfl, h.outer.lt.2, by rw [Nat.zero_add]; exact hc, hB.maxm, hrd⟩
/-- What toIntSS hands back. -/
def RetM (zss : List (List Int)) (w : World) (e : Ending) (w' : World) : Prop := ∃ A c rs, e = .returned (.slice A zss.length c) ∧ OwnM w w' (.slice A zss.length c) rs zss

theorem szInt (A : Option Addr) (n c : Nat) (l : Int) (w : World) (hn : n ≤ maxLen) (hl : 0 ≤ l) (hl2 : l ≤ 1048576) : Calls Try.prog 74 #[.slice A n c, .int .i64 l] w fun e w' => e = .returned (.int .i64 (if l < (n : Int) then -1 else l - n)) ∧ w = w' := by
  unfold maxLen at hn
  by_cases h : l < (n : Int)
  · rw [if_pos h]
    have hd : l - (n : Int) < 0 := by omega
    go_enter Try.func74, Try.ntmps74
    go_wp2
    go_ret
    exact ⟨rfl, rfl⟩
  · rw [if_neg h]
    have hd : ¬ (l - (n : Int) < 0) := by omega
    go_enter Try.func74, Try.ntmps74
    go_wp2
    go_ret
    exact ⟨rfl, rfl⟩
/-- How many places all rows take, from row i on. -/
def szRest (zss : List (List Int)) : Nat := (zss.map List.length).sum
/-- What szIntSS returns. -/
def szV (zss : List (List Int)) : Int := if 1048576 < (zss.length + szRest zss : Nat) then -1 else 1048576 - ((zss.length + szRest zss : Nat) : Int)
set_option maxRecDepth 100000 in
set_option maxHeartbeats 1000000 in
theorem szIntSS (A : Option Addr) (n c : Nat) (zss : List (List Int)) (w : World) (hl : zss.length = n) (hn : n ≤ maxLen) (ha : RdM w A zss) : Calls Try.prog 44 #[.slice A n c, .int .i64 1048576] w fun e w' =>
    e = .returned (.int .i64 (szV zss)) ∧ w = w' := by
  have HA := Lib.hid ha
  have HL := Lib.hid hl
  unfold maxLen at hn
  clear ha hl
  by_cases h : 1048576 < n
  · have hd : (1048576 : Int) - (n : Int) < 0 := by omega
    have HV : Hid (szV zss = -1) := by show _ = _; unfold szV; rw [if_pos (by rw [HL.out]; omega)]
    go_enter Try.func44, Try.ntmps44
    go_wp2
    go_ret
    exact ⟨by rw [HV.out]; rfl, rfl⟩
  · have hd : ¬ ((1048576 : Int) - (n : Int) < 0) := by omega
    go_enter Try.func44, Try.ntmps44
    go_wp2_with fail
    go_loop [1, 5] (fun lv i => ∃ (k : Nat) (l : Int), k ≤ n ∧ i = .int .i64 (k : Int) ∧ lv = .int .i64 l ∧ 0 ≤ l ∧ l ≤ 1048576 ∧ Hid (l - (szRest (zss.drop k) : Int) = 1048576 - (zss.length : Int) - (szRest zss : Int))) (fun _ i => n - (intOf i).toNat)
    case atStart => exact ⟨0, _, by omega, rfl, rfl, by omega, by omega, by show _ = _; rw [List.drop_zero, HL.out]⟩
    case round =>
      obtain ⟨k, l, hk, rfl, rfl, hl0, hl1, HS⟩ := hrel
      by_cases hlt : k < n
      · obtain ⟨b, o, rfl⟩ := HA.out.form (by rw [HL.out]; omega)
        obtain ⟨Ai, ci, hck, hm, _⟩ := HA.out.at_ k (by rw [HL.out]; exact hlt)
        have hdk : zss.drop k = zss.getD k [] :: zss.drop (k + 1) := by
          have hk' : k < zss.length := by rw [HL.out]; exact hlt
          rw [List.drop_eq_getElem_cons hk']; simp [List.getD, hk']
        have hs := HS.out
        rw [hdk] at hs
        obtain ⟨m, hmm⟩ : ∃ m, m = (zss.getD k []).length := ⟨_, rfl⟩
        have hs2 : l - ((m : Int) + (szRest (zss.drop (k + 1)) : Int)) = 1048576 - (zss.length : Int) - (szRest zss : Int) := by
          rw [← hs, hmm]; simp only [szRest, List.map_cons, List.sum_cons]; omega
        rw [← hmm] at hck hm
        have HZ := Lib.hid (fun w => szInt Ai m ci l w hm hl0 hl1)
        by_cases hlm : l < (m : Int)
        · rw [if_pos hlm] at HZ
          have HV : Hid (szV zss = -1) := by show _ = _; unfold szV; rw [if_pos (by omega)]
          clear hs hs2 hdk hmm HS hlm
          go_wp2_with (go_at_call 74; refine (HZ.out _).mono ?_; rintro e w' ⟨rfl, rfl⟩)
          go_ret
          exact ⟨by rw [HV.out]; rfl, rfl⟩
        · rw [if_neg hlm] at HZ
          have HS2 : Hid ((l - (m : Int)) - (szRest (zss.drop (k + 1)) : Int) = 1048576 - (zss.length : Int) - (szRest zss : Int)) := by show _ = _; omega
          have hnn : ¬ (l - (m : Int) < 0) := by omega
          clear hs hs2 hdk hmm HS hlm
          go_wp2_with (go_at_call 74; refine (HZ.out _).mono ?_; rintro e w' ⟨rfl, rfl⟩)
          go_round
          case rel => exact ⟨k + 1, l - (m : Int), by omega, by go_num, rfl, by omega, by omega, HS2.out⟩
          case measure => simp [intOf]; omega
      · obtain rfl : k = n := by omega
        have HV : Hid (szV zss = l) := by
          show _ = _
          unfold szV
          have := HS.out
          have h0 : szRest (zss.drop k) = 0 := by rw [List.drop_of_length_le (by rw [HL.out]; exact Nat.le_refl _)]; rfl
          rw [h0] at this
          rw [if_neg (by omega)]; omega
        go_wp2
        go_ret
        exact ⟨by rw [HV.out]; rfl, rfl⟩
theorem sz_row {zss : List (List Int)} (h : zss.length + szRest zss ≤ 1048576) (i : Nat) : (zss.getD i []).length ≤ 1048576 := by
  have : ∀ (l : List (List Int)) (i : Nat), (l.getD i []).length ≤ szRest l := by
    intro l
    induction l with
    | nil => intro i; simp [List.getD]
    | cons x r ih =>
      intro i
      cases i with
      | zero => simp [szRest]
      | succ i => rw [List.getD_cons_succ]; have := ih i; simp only [szRest, List.map_cons, List.sum_cons] at this ⊢; omega
  have := this zss i
  omega

set_option maxRecDepth 100000 in
set_option maxHeartbeats 1000000 in
theorem toIntSS (A : Option Addr) (n c : Nat) (zss : List (List Int)) (w : World) (hl : zss.length = n) (hn : n ≤ 1048576) (hz : ∀ i, (zss.getD i []).length ≤ 1048576) (ha : RdM w A zss) : Calls Try.prog 46 #[.slice A n c] w (RetM zss w) := by
  have HA := Lib.hid ha
  have HL := Lib.hid hl
  have HZ := Lib.hid hz
  clear ha hz
  go_enter Try.func46, Try.ntmps46
  go_wp2_with (at_make; refine buf_make elRow (Below.refl w.heap.size w) n (by omega) rfl _ _ rfl _ _ _ _ rfl rfl rfl rfl ?_; intro w1 hB _)
  have hg1 := hB.lt.2
  obtain ⟨g, hgg⟩ : ∃ g, g = w.heap.size := ⟨_, rfl⟩
  rw [← hgg] at hB hg1 ⊢
  have HGG := Lib.hid hgg
  clear hgg hg1
  go_loopw [4] (fun i wr => ∃ (j : Nat) (rs : List Value), j ≤ n ∧ i = .int .i64 (j : Int) ∧ rs.length = j ∧ Buf w wr 22 (.slice (some ⟨g, 0, none⟩) n n) (rs ++ List.replicate (n - j) (.slice none 0 0)) ∧ Hid (Rows_ w wr rs (zss.take j)) ∧ Hid (Apart rs)) (fun i _ => n - (intOf i).toNat)
  case atStart => exact ⟨0, [], by omega, rfl, rfl, by simpa using hB, ⟨rfl, fun i r z h1 _ => by cases h1⟩, fun i j r s _ h1 _ => by cases h1⟩
  case round =>
    obtain ⟨j, rs, hj, rfl, hrl, hBr, HR, HP⟩ := hrel
    by_cases hlt : j < n
    · obtain ⟨b, o, rfl⟩ := HA.out.form (by rw [HL.out]; omega)
      obtain ⟨Ai, ci, hck, _, hrd⟩ := (HA.out.keep hBr.bel).at_ j (by rw [HL.out]; exact hlt)
      have hzj := HZ.out j
      have hzs : zss[j]? = some (zss.getD j []) := by have : j < zss.length := by rw [HL.out]; exact hlt
                                                      simp [List.getD, this]
      have htk : zss.take (j + 1) = zss.take j ++ [zss.getD j []] := by
        have hj' : j < zss.length := by rw [HL.out]; exact hlt
        rw [List.take_succ_eq_append_getElem hj']; simp [List.getD, hj']
      obtain ⟨z, hz⟩ : ∃ z, z = zss.getD j [] := ⟨_, rfl⟩
      rw [← hz] at hck hrd hzj htk
      have HT := Lib.hid (toIntS Ai z.length ci z wr rfl hrd (by omega))
      obtain ⟨m, hm⟩ : ∃ m, m = z.length := ⟨_, rfl⟩
      rw [← hm] at hck HT
      have HM := Lib.hid hm
      have HTK := Lib.hid htk
      have HRL := Lib.hid hrl
      have hrl' : rs.length = j := hrl
      clear hzs htk hz hrd hm hrl
      go_wp2_with fail
      refine (HT.out).mono ?_
      rintro e w2 ⟨A2, c2, rfl, hB2⟩
      have hO := hBr.after hB2.bel
      have hc := hO.cellAt j hlt
      have hf := hO.frozenAt j
      have hlt2 := hBr.lt.2
      have hne : (Value.slice A2 z.length c2).ownBlock ≠ some g := by
        intro he
        have := hB2.own.lt g he
        omega
      have hS := hO.set j (.slice A2 z.length c2)
      have hset : (rs ++ List.replicate (n - j) (Value.slice none 0 0)).set j (.slice A2 z.length c2) = (rs ++ [.slice A2 z.length c2]) ++ List.replicate (n - (j + 1)) (.slice none 0 0) := by
        rw [show n - j = (n - (j + 1)) + 1 by omega, List.replicate_succ, set_mid _ _ _ _ j hrl']
      rw [hset] at hS
      have HS := Lib.hid hS
      have HR2 : Hid (Rows_ w (w2.setCell ⟨g, j, none⟩ (.slice A2 z.length c2)) (rs ++ [.slice A2 z.length c2]) (zss.take (j + 1))) := by
        show Rows_ _ _ _ _
        rw [HTK.out]
        refine ⟨by rw [List.length_append, List.length_append, HR.out.1]; rfl, ?_⟩
        intro i r y h1 h2
        have hlen : rs.length = (zss.take j).length := HR.out.1
        by_cases hi : i < rs.length
        · rw [List.getElem?_append_left hi] at h1
          rw [List.getElem?_append_left (by omega)] at h2
          have hB0 := (HR.out.2 i r y h1 h2).after hB2.bel
          refine hB0.far hBr.lt.1 ?_ j _
          cases hq : r.ownBlock with
          | none => intro he; cases he
          | some q =>
            have := hO.ne_ (v := .slice (some ⟨g, 0, none⟩) n n) hB0 (by decide) (g := g) rfl
            rw [hq] at this; exact this
        · rw [List.getElem?_append_right (by omega)] at h1
          rw [List.getElem?_append_right (by omega)] at h2
          rw [← hlen] at h2
          have h0 : i - rs.length = 0 := by
            cases hii : i - rs.length with
            | zero => rfl
            | succ q => rw [hii] at h1; simp at h1
          rw [h0] at h1 h2
          simp at h1 h2
          subst h1; subst h2
          exact (hB2.from_ hBr.bel).far hBr.lt.1 hne j _
      have HP2 : Hid (Apart (rs ++ [.slice A2 z.length c2])) := by
        intro i k r s hik h1 h2
        have hir : i < rs.length := by
          rcases Nat.lt_or_ge i rs.length with h | h
          · exact h
          · have : k < (rs ++ [Value.slice A2 z.length c2]).length := by
              rcases Nat.lt_or_ge k (rs ++ [Value.slice A2 z.length c2]).length with h' | h'
              · exact h'
              · rw [List.getElem?_eq_none h'] at h2; cases h2
            simp at this; omega
        rw [List.getElem?_append_left hir] at h1
        by_cases hk : k < rs.length
        · rw [List.getElem?_append_left hk] at h2
          exact HP.out i k r s hik h1 h2
        · rw [List.getElem?_append_right (by omega)] at h2
          have h0 : k - rs.length = 0 := by
            cases hii : k - rs.length with
            | zero => rfl
            | succ q => rw [hii] at h2; simp at h2
          rw [h0] at h2
          simp at h2
          subst h2
          cases hq : r.ownBlock with
          | none => exact .inl rfl
          | some q =>
            right
            intro he
            have hz2 : (zss.take j)[i]? = some ((zss.take j)[i]'(by rw [← HR.out.1]; exact hir)) := List.getElem?_eq_getElem _
            have h3 := (HR.out.2 i r _ h1 hz2).own.lt q hq
            have h4 := hB2.own.lt q he.symm
            omega
      obtain ⟨u, hu⟩ : ∃ u, (rs ++ List.replicate (n - j) (Value.slice none 0 0))[j]? = some u := ⟨_, List.getElem?_eq_getElem (by simp; omega)⟩
      rw [hu] at hc
      clear hu hset hS hO hBr hne HR HP hB2
      go_wp2
      go_roundw
      case rel => exact ⟨j + 1, _, by omega, by go_num, by simp [HRL.out], HS.out, HR2.out, HP2.out⟩
      case measure => simp [intOf]; omega
    · obtain rfl : j = n := by omega
      rw [Nat.sub_self, List.replicate_zero, List.append_nil] at hBr
      have HO : Hid (OwnM w wr (.slice (some ⟨g, 0, none⟩) zss.length zss.length) rs zss) := by
        have h1 := HR.out
        rw [List.take_of_length_le (by rw [HL.out]; exact Nat.le_refl _)] at h1
        rw [← HL.out] at hBr
        exact ⟨hBr, h1, HP.out⟩
      subst hl
      go_wp2
      go_ret
      exact ⟨_, _, rs, rfl, HO.out⟩
theorem szV_ok {zss : List (List Int)} (h : ¬ szV zss < 0) : zss.length + szRest zss ≤ 1048576 := by
  unfold szV at h
  split at h <;> omega
set_option maxRecDepth 100000 in
theorem eqIntQ (A B : Option Addr) (c d n : Nat) (l : List Int) (w : World) (hnl : n = l.length) (ha : Rd .i64 w A l) (hb : Rd .i64 w B l) (hn : n ≤ 1073741824) :
    Calls Try.prog 17 #[.slice A n c, .slice B n d] w fun e w' => e = .returned (.bool true) ∧ ∃ m, w' = w.drewN m := by
  have HN := Lib.hid hnl
  have HA := Lib.hid ha
  have HB := Lib.hid hb
  clear hnl ha hb
  go_enter Try.func17, Try.ntmps17
  go_wp2
  go_loopw [5] (fun i wr => ∃ k : Nat, k ≤ n ∧ i = .int .i64 k ∧ Hid (∃ m, wr = w.drewN m)) (fun i _ => n - (intOf i).toNat)
  case atStart => exact ⟨0, Nat.zero_le _, rfl, 0, rfl⟩
  case round =>
    obtain ⟨k, hk, rfl, HW⟩ := hrel
    by_cases hlt : k < n
    · obtain ⟨b1, o1, rfl, _, hc1⟩ := HA.out k (by rw [← HN.out]; exact hlt)
      obtain ⟨b2, o2, rfl, _, hc2⟩ := HB.out k (by rw [← HN.out]; exact hlt)
      obtain ⟨m, rfl⟩ := HW.out
      obtain ⟨x, hx⟩ : ∃ x, x = l.getD k 0 := ⟨_, rfl⟩
      rw [← hx] at hc1 hc2
      have hlt' : (k : Int) < (n : Int) := by omega
      have hk0 : (0 : Int) ≤ (k : Int) := by omega
      clear hx
      go_wp2_with fail
      go_quiet (fail)
      go_wp2
      go_roundw
      case rel => exact ⟨k + 1, by omega, by go_num, _, by first | rfl | rw [World.drewN_drewN]⟩
      case measure => simp [intOf]; omega
    · obtain ⟨m, rfl⟩ := HW.out
      go_wp2
      go_ret
      exact ⟨rfl, m, rfl⟩
set_option maxRecDepth 100000 in
set_option maxHeartbeats 1000000 in
theorem eqIntSS (A B : Option Addr) (c d : Nat) (zss : List (List Int)) (w : World) (ha : RdM w A zss) (hb : RdM w B zss) (hn : zss.length ≤ 1048576) (hz : ∀ i, (zss.getD i []).length ≤ 1048576) :
    Calls Try.prog 48 #[.slice A zss.length c, .slice B zss.length d] w fun e w' => e = .returned (.bool true) ∧ Below w.heap.size w w' := by
  obtain ⟨n, hnn⟩ : ∃ n, n = zss.length := ⟨_, rfl⟩
  rw [← hnn] at hn ⊢
  have HN := Lib.hid hnn
  have HA := Lib.hid ha
  have HB := Lib.hid hb
  have HZ := Lib.hid hz
  clear hnn ha hb hz
  go_enter Try.func48, Try.ntmps48
  go_wp2
  go_loopw [5] (fun i wr => ∃ k : Nat, k ≤ n ∧ i = .int .i64 k ∧ Hid (∃ m, wr = w.drewN m)) (fun i _ => n - (intOf i).toNat)
  case atStart => exact ⟨0, Nat.zero_le _, rfl, 0, rfl⟩
  case round =>
    obtain ⟨k, hk, rfl, HW⟩ := hrel
    have HBW : Hid (Below w.heap.size w wr) := by obtain ⟨m, rfl⟩ := HW.out; exact below_drewN (Below.refl _ _) _
    by_cases hlt : k < n
    · obtain ⟨b1, o1, A1, c1, rfl, _, hc1, _, hr1⟩ := (HA.out.keep HBW.out) k (by rw [← HN.out]; exact hlt)
      obtain ⟨b2, o2, A2, c2, rfl, _, hc2, _, hr2⟩ := (HB.out.keep HBW.out) k (by rw [← HN.out]; exact hlt)
      have hzk := HZ.out k
      obtain ⟨z, hz⟩ : ∃ z, z = zss.getD k [] := ⟨_, rfl⟩
      rw [← hz] at hc1 hc2 hr1 hr2 hzk
      obtain ⟨q, hq⟩ : ∃ q, q = z.length := ⟨_, rfl⟩
      rw [← hq] at hc1 hc2 hzk
      have HE := Lib.hid (fun n' => eqIntQ A1 A2 c1 c2 q z (wr.drewN n') hq (hr1.keep (below_drewN (Below.refl _ _) _)) (hr2.keep (below_drewN (Below.refl _ _) _)) (by omega))
      have hlt' : (k : Int) < (n : Int) := by omega
      have hk0 : (0 : Int) ≤ (k : Int) := by omega
      clear hz hq hr1 hr2
      go_wp2_with fail
      go_quiet ((go_at_call 17; exact Calls.quiet_of (HE.out _)))
      go_wp2
      go_roundw
      case rel => exact ⟨k + 1, by omega, by go_num, by obtain ⟨m, rfl⟩ := HW.out; exact ⟨_, World.drewN_drewN _ _ _⟩⟩
      case measure => simp [intOf]; omega
    · go_wp2
      go_ret
      exact ⟨rfl, HBW.out⟩
end Go.Proofs.Ytndehfkamfmmeaa
