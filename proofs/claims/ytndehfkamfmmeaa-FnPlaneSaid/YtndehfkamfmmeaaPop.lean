/-
  PathOfPlane of both packages and its law, walked.
-/
import Derived.Test.YtndehfkamfmmeaaPlI
import Derived.Test.YtndehfkamfmmeaaBsP
import Derived.Test.YtndehfkamfmmeaaRev
import Derived.Test.YtndehfkamfmmeaaLev
namespace Go.Proofs.Ytndehfkamfmmeaa
open Go.RowKit
/-- What PathOfPlane returns. -/
def popV (p : List Int) : Value := if plane p = true then .tuple #[.string (toB (pathOf p)), .bool true] else .tuple #[.string ByteArray.empty, .bool false]
theorem popV_yes {p : List Int} (h : plane p = true) : popV p = .tuple #[.string (toB (pathOf p)), .bool true] := if_pos h
theorem popV_no {p : List Int} (h : plane p = false) : popV p = .tuple #[.string ByteArray.empty, .bool false] := if_neg (by rw [h]; simp)
theorem popV_shape (p : List Int) : ∃ s b, popV p = .tuple #[.string s, .bool b] := by
  cases h : plane p with
  | true => exact ⟨_, _, popV_yes h⟩
  | false => exact ⟨_, _, popV_no h⟩
theorem pathOf_len {p : List Int} (h : plane p = true) : (pathOf p).length ≤ 16 := dyck_len (pathOf_dyck h)
theorem pop_last {x : Int} {s : List Nat} (h : popTo x s ≠ []) : (popTo x s).getLast? = s.getLast? := by
  induction s with
  | nil => rfl
  | cons a r ih =>
    simp only [popTo] at h ⊢
    split
    · rfl
    · rename_i hx
      rw [if_neg hx] at h
      rw [ih h]
      cases r with
      | nil => simp [popTo] at h
      | cons b q => rw [List.getLast?_cons_cons]
theorem last_cons {a : Nat} {q : List Nat} (h : q ≠ []) : (a :: q).getLast? = q.getLast? := by
  cases q with
  | nil => exact absurd rfl h
  | cons b q => rw [List.getLast?_cons_cons]
/-- What holds at the head of a round: before vertex k, with s the last vertex and its ancestors. -/
structure PoAt (p : List Int) (k : Nat) (s : List Nat) (pre : List UInt8) : Prop where
  sum : pre ++ poGo k s (p.drop k) = pathOf p
  chain : Chain p s
  head : top s = (k : Int) - 1
  rest : plGo k s (p.drop k) = true
  fin : s.getLast? = some 0
theorem PoAt.start {p : List Int} (h : plane p = true) : PoAt p 1 [0] [] := by
  have h1 := plane_len' h
  have h2 := plane_first' h
  exact ⟨rfl, chain_root h2, rfl, by rw [← plane_ok h1.1 h1.2 h2]; exact h, rfl⟩
theorem PoAt.small {p : List Int} {k : Nat} {s : List Nat} {pre : List UInt8} (h : PoAt p k s pre) (hp : plane p = true) : pre.length ≤ 16 := by
  have := congrArg List.length h.sum
  have := pathOf_len hp
  simp at *; omega
/-- Inside a round: from r on is still to be looked at. -/
structure PoIn (p : List Int) (k : Nat) (r : List Nat) (pre : List UInt8) : Prop where
  sum : pre ++ (List.replicate (pops (p.getD k 0) r) 100 ++ 117 :: poGo (k + 1) (k :: popTo (p.getD k 0) r) (p.drop (k + 1))) = pathOf p
  chain : Chain p r
  low : top r < (k : Int)
  ne : popTo (p.getD k 0) r ≠ []
  rest : plGo (k + 1) (k :: popTo (p.getD k 0) r) (p.drop (k + 1)) = true
  fin : r.getLast? = some 0
theorem PoAt.in_ {p : List Int} {k : Nat} {s : List Nat} {pre : List UInt8} (h : PoAt p k s pre) (hk : k < p.length) : PoIn p k s pre := by
  have hd := drop_one p k hk
  have hr := h.rest
  have hs := h.sum
  rw [hd, plGo_cons, Bool.and_eq_true] at hr
  rw [hd, poGo.eq_2] at hs
  exact ⟨hs, h.chain, by rw [h.head]; omega, by intro he; rw [he] at hr; simp at hr, hr.2, h.fin⟩
theorem PoIn.more {p : List Int} {k a : Nat} {q : List Nat} {pre : List UInt8} (h : PoIn p k (a :: q) pre) (hne : (a : Int) ≠ p.getD k 0) : PoIn p k q (pre ++ [100]) := by
  have e1 := pop_cons_ne (r := q) hne
  have e2 : pops (p.getD k 0) (a :: q) = pops (p.getD k 0) q + 1 := by simp only [pops]; rw [if_neg hne]
  have h1 := h.sum
  have h2 := h.ne
  have h3 := h.rest
  rw [e1, e2] at h1
  rw [e1] at h2 h3
  have hlow := h.low
  have hlt : top q < (a : Int) := h.chain.2.1
  rw [top_cons] at hlow
  refine ⟨by rw [← h1, List.replicate_succ]; simp, h.chain.2.2, by omega, h2, h3, ?_⟩
  have hq : q ≠ [] := by intro hq; rw [hq] at h2; exact h2 rfl
  rw [← last_cons hq]; exact h.fin
theorem PoIn.stop {p : List Int} {k a : Nat} {q : List Nat} {pre : List UInt8} (h : PoIn p k (a :: q) pre) (he : (a : Int) = p.getD k 0) : PoAt p (k + 1) (k :: a :: q) (pre ++ [117]) := by
  have e1 := pop_cons_eq (r := q) he
  have e2 : pops (p.getD k 0) (a :: q) = 0 := by simp only [pops]; rw [if_pos he]
  have h1 := h.sum
  have h3 := h.rest
  rw [e1, e2] at h1
  rw [e1] at h3
  refine ⟨by rw [← h1]; simp, ⟨by rw [← he]; rfl, h.low, h.chain⟩, by rw [top_cons]; omega, h3, by rw [last_cons (by simp)]; exact h.fin⟩
/-- Behind the last vertex: the way down from r. -/
structure PoEnd (p : List Int) (r : List Nat) (pre : List UInt8) : Prop where
  sum : pre ++ List.replicate (r.length - 1) 100 = pathOf p
  chain : Chain p r
  low : top r < (p.length : Int)
  fin : r.getLast? = some 0
theorem chain_last {p : List Int} {s : List Nat} (hx : p.getD 0 0 = -1) (h : Chain p s) : ∀ q, s = 0 :: q → q = [] := by
  intro q hq
  subst hq
  have h1 : p.getD 0 0 = top q := h.1
  rw [hx] at h1
  cases q with
  | nil => rfl
  | cons b q => rw [top_cons] at h1; omega
/-- The root is the last of a chain. -/
theorem chain_zero {p : List Int} {a b : Nat} {q : List Nat} (h : Chain p (a :: b :: q)) : a ≠ 0 := by
  intro h0
  have : ((b : Nat) : Int) < (a : Int) := h.2.1
  omega
theorem PoAt.end_ {p : List Int} {k : Nat} {s : List Nat} {pre : List UInt8} (h : PoAt p k s pre) (hk : k = p.length) (h1 : 1 ≤ k) : PoEnd p s pre := by
  subst hk
  have hs := h.sum
  rw [List.drop_of_length_le (Nat.le_refl _)] at hs
  exact ⟨hs, h.chain, by rw [h.head]; omega, h.fin⟩
theorem PoEnd.more {p : List Int} {a b : Nat} {q : List Nat} {pre : List UInt8} (h : PoEnd p (a :: b :: q) pre) : PoEnd p (b :: q) (pre ++ [100]) := by
  have h1 := h.sum
  have hlow := h.low
  have hlt : top (b :: q) < (a : Int) := h.chain.2.1
  rw [top_cons] at hlow hlt
  refine ⟨?_, h.chain.2.2, by rw [top_cons]; omega, by rw [← last_cons (a := a) (by simp)]; exact h.fin⟩
  rw [← h1]; simp [List.replicate_succ]
theorem PoEnd.stop {p : List Int} {a : Nat} {pre : List UInt8} (h : PoEnd p [a] pre) : pre = pathOf p := by
  have := h.sum; simpa using this
/-- A lone vertex is the root, and the root stands alone. -/
theorem PoEnd.root {p : List Int} {a : Nat} {q : List Nat} {pre : List UInt8} (h : PoEnd p (a :: q) pre) (hx : p.getD 0 0 = -1) : a = 0 ↔ q = [] := by
  constructor
  · intro h0
    subst h0
    exact chain_last hx h.chain q rfl
  · intro hq
    subst hq
    have := h.fin
    simpa using this
theorem PoEnd.small {p : List Int} {s : List Nat} {pre : List UInt8} (h : PoEnd p s pre) (hp : plane p = true) : pre.length ≤ 16 := by
  have := congrArg List.length h.sum
  have := pathOf_len hp
  simp at *; omega
theorem PoIn.small {p : List Int} {k : Nat} {s : List Nat} {pre : List UInt8} (h : PoIn p k s pre) (hp : plane p = true) : pre.length ≤ 15 := by
  have := congrArg List.length h.sum
  have := pathOf_len hp
  simp at *; omega

set_option maxRecDepth 100000 in
set_option maxHeartbeats 1000000 in
theorem popI (A : Option Addr) (n c : Nat) (p : List Int) (w : World) (hl : p.length = n) (ha : Rd .i64 w A p) (hn : n ≤ 1048576) : Calls Try.prog 27 #[.slice A n c] w fun e w' => e = .returned (popV p) ∧ Below w.heap.size w w' := by
  have HPl := Lib.hid (fun w' (hb : Below w.heap.size w w') => isPlaneI A n c p w' hl (ha.keep hb) hn)
  have hlit := Buf.lit (w0 := w) (e := 5) (Below.refl _ w) [] (by decide)
  cases hp : plane p with
  | false =>
    rw [hp] at HPl
    rw [popV_no hp]
    clear ha
    go_enter Try.func27, Try.ntmps27
    go_wp2_with (go_at_call 16; refine (HPl.out _ (Below.refl _ _)).mono ?_; rintro e w' ⟨rfl, rfl⟩)
    go_ret2
    exact ⟨rfl, Below.refl _ _⟩
  | true =>
    rw [hp] at HPl
    rw [popV_yes hp]
    have HS := Lib.hid (PoAt.start hp)
    have HP := Lib.hid hp
    have HX := Lib.hid (plane_first' hp)
    have h9 := plane_len' hp
    rw [hl] at h9
    obtain ⟨n1, n9⟩ := h9
    obtain ⟨b, o, rfl⟩ := ha.form (by omega)
    have HA := Lib.hid ha
    have HL := Lib.hid hl
    clear ha hl hp
    go_enter Try.func27, Try.ntmps27
    go_wp2_with (go_at_call 16; refine (HPl.out _ (Below.refl _ _)).mono ?_; rintro e w' ⟨rfl, rfl⟩)
    go_loopw [4, 5, 6] (fun v at_ i wr => ∃ (k : Nat) (s : List Nat) (pre : List UInt8), 1 ≤ k ∧ k ≤ n ∧ i = .int .i64 (k : Int) ∧ at_ = .int .i64 (top s) ∧ Hid (PoAt p k s pre) ∧ Buf w wr 5 v ((bNum pre).map (Value.int .u8))) (fun _ _ i _ => n - (intOf i).toNat)
    case atStart => exact ⟨1, [0], [], by omega, by omega, rfl, rfl, HS.out, hlit⟩
    case round =>
      obtain ⟨k, s, pre, hk1, hk, rfl, rfl, HE, hBr⟩ := hrel
      obtain ⟨wo, hwo⟩ : ∃ wo : World, wo = wr := ⟨_, rfl⟩
      rw [← hwo] at hBr ⊢
      clear hwo
      by_cases hlt : k < n
      · have HI := Lib.hid (HE.out.in_ (by rw [HL.out]; exact hlt))
        clear HE
        go_wp2_with fail
        go_loopw [4, 5] (fun v at_ wr => ∃ (r : List Nat) (pre : List UInt8), at_ = .int .i64 (top r) ∧ Hid (PoIn p k r pre) ∧ Buf w wr 5 v ((bNum pre).map (Value.int .u8))) (fun _ at_ _ => (intOf at_ + 1).toNat)
        case atStart => exact ⟨s, pre, rfl, HI.out, hBr⟩
        case round =>
          obtain ⟨r, pre, rfl, HIr, hBz⟩ := hrel
          have hck := (HA.out.keep hBz.bel).at_ k (by rw [HL.out]; exact hlt)
          obtain ⟨x, hxk⟩ : ∃ x, x = p.getD k 0 := ⟨_, rfl⟩
          rw [← hxk] at hck
          have hsm := HIr.out.small HP.out
          have hxl : ((bNum pre).map (Value.int .u8)).length ≤ 16 := by rw [List.length_map, bNum_len]; omega
          cases r with
          | nil => exact absurd (show popTo (p.getD k 0) [] = [] from rfl) HIr.out.ne
          | cons a q =>
            have hlow := HIr.out.low
            rw [top_cons] at hlow ⊢
            have hca := (HA.out.keep hBz.bel).at_ a (by rw [HL.out]; omega)
            rw [HIr.out.chain.1] at hca
            have htq : top q < (a : Int) := HIr.out.chain.2.1
            have hqlo := top_lo q
            by_cases hax : (a : Int) = x
            · have e1 : ((a : Int) != x) = false := by simpa using hax
              have HE2 := Lib.hid (HIr.out.stop (by rw [← hxk]; exact hax))
              clear hax hxk htq hqlo HIr hsm
              go_wp2_with (at_builtin; refine buf_append1 elU8 rfl _ _ rfl hBz rfl rfl rfl (by omega) ?_; intro v2 w2 hB2 _ _)
              go_roundw
              case rel => exact ⟨k + 1, _, pre ++ [117], by omega, by omega, by go_num, rfl, HE2.out, by rw [bNum_snoc]; exact hB2⟩
              case measure => simp [intOf]; omega
            · have e1 : ((a : Int) != x) = true := by simpa using hax
              have HE2 := Lib.hid (HIr.out.more (by rw [← hxk]; exact hax))
              obtain ⟨y, hy⟩ : ∃ y, y = top q := ⟨_, rfl⟩
              have HY := Lib.hid hy
              rw [← hy] at htq hqlo
              have HCA : Hid (∀ w', Below w.heap.size w w' → w'.cell? ⟨b, o + a, none⟩ = some (.int .i64 y)) := by
                intro w' hb
                have := (HA.out.keep hb).at_ a (by rw [HL.out]; omega)
                rw [HIr.out.chain.1, ← HY.out] at this; exact this
              clear hax hxk HIr hsm hy hca
              go_wp2_with (at_builtin; refine buf_append1 elU8 rfl _ _ rfl hBz rfl rfl rfl (by omega) ?_; intro v2 w2 hB2 _ _; have hca2 := HCA.out _ hB2.bel)
              go_roundw
              case rel => exact ⟨q, pre ++ [100], by rw [HY.out], HE2.out, by rw [bNum_snoc]; exact hB2⟩
              case measure => simp [intOf]; omega
      · have HI := Lib.hid (HE.out.end_ (by rw [HL.out]; omega) hk1)
        clear HE
        go_wp2_with fail
        go_loopw [4, 5] (fun v at_ wr => ∃ (r : List Nat) (pre : List UInt8), at_ = .int .i64 (top r) ∧ Hid (PoEnd p r pre) ∧ Buf w wr 5 v ((bNum pre).map (Value.int .u8))) (fun _ at_ _ => (intOf at_ + 1).toNat)
        case atStart => exact ⟨s, pre, rfl, HI.out, hBr⟩
        case round =>
          obtain ⟨r, pre, rfl, HIr, hBz⟩ := hrel
          have hsm := HIr.out.small HP.out
          have hxl : ((bNum pre).map (Value.int .u8)).length ≤ 16 := by rw [List.length_map, bNum_len]; omega
          cases r with
          | nil => have := HIr.out.fin; cases this
          | cons a q =>
            have hroot := HIr.out.root HX.out
            have hlow := HIr.out.low
            rw [HL.out] at hlow
            rw [top_cons] at hlow ⊢
            by_cases ha0 : a = 0
            · have hq := hroot.1 ha0
              subst hq
              have hpe := HIr.out.stop
              subst ha0
              have e1 : ((((0 : Nat) : Int)) != 0) = false := rfl
              have hcv := buf_string (t := 37) (d := 9) elU8.sl Try.underlying5 Try.underlying9 hBz
              rw [bNum_toB, hpe] at hcv
              have HB := Lib.hid hBz.bel
              clear hroot hpe hBz HIr hsm
              go_wp2
              go_ret2
              exact ⟨rfl, HB.out⟩
            · have e1 : ((a : Int) != 0) = true := by rw [bne_iff_ne]; omega
              cases q with
              | nil => exact absurd (hroot.2 rfl) ha0
              | cons d q =>
                have HE2 := Lib.hid HIr.out.more
                have htq : top (d :: q) < (a : Int) := HIr.out.chain.2.1
                rw [top_cons] at htq
                have HCA : Hid (∀ w', Below w.heap.size w w' → w'.cell? ⟨b, o + a, none⟩ = some (.int .i64 (d : Int))) := by
                  intro w' hb
                  have := (HA.out.keep hb).at_ a (by rw [HL.out]; omega)
                  rw [HIr.out.chain.1, top_cons] at this; exact this
                clear hroot HIr hsm
                go_wp2_with (at_builtin; refine buf_append1 elU8 rfl _ _ rfl hBz rfl rfl rfl (by omega) ?_; intro v2 w2 hB2 _ _; have hca2 := HCA.out _ hB2.bel)
                go_roundw
                case rel => exact ⟨d :: q, pre ++ [100], rfl, HE2.out, by rw [bNum_snoc]; exact hB2⟩
                case measure => simp [intOf]; omega

/-- The levels from vertex k on, and the level of the vertex before it. -/
structure LpAt (p : List Int) (k : Nat) (s : List Nat) : Prop where
  drp : (levels p).drop k = lvGo k s (p.drop k)
  prev : (levels p).getD (k - 1) 0 = (s.length : Int) - 1
theorem LpAt.start {p : List Int} (h : plane p = true) : LpAt p 1 [0] := by
  refine ⟨by rw [levels_yes h]; rfl, by rw [levels_yes h]; rfl⟩
theorem LpAt.now {p : List Int} {k : Nat} {s : List Nat} (h : LpAt p k s) (hk : k < p.length) : (levels p).getD k 0 = ((popTo (p.getD k 0) s).length : Int) := by
  have hd := drop_one p k hk
  have h1 := h.drp
  rw [hd] at h1
  simp only [lvGo] at h1
  have : ((levels p).drop k).getD 0 0 = ((popTo (p.getD k 0) s).length : Int) := by rw [h1]; rfl
  rw [← this]; simp [List.getD]
theorem LpAt.next {p : List Int} {k : Nat} {s : List Nat} (h : LpAt p k s) (hk : k < p.length) : LpAt p (k + 1) (k :: popTo (p.getD k 0) s) := by
  have hn := h.now hk
  have hd := drop_one p k hk
  have h1 := h.drp
  rw [hd] at h1
  simp only [lvGo] at h1
  refine ⟨?_, by rw [Nat.add_sub_cancel, hn, List.length_cons]; omega⟩
  have := congrArg List.tail h1
  rw [List.tail_drop] at this
  exact this
theorem PoAt.next {p : List Int} {k : Nat} {s : List Nat} {pre : List UInt8} (h : PoAt p k s pre) (hk : k < p.length) : PoAt p (k + 1) (k :: popTo (p.getD k 0) s) ((pre ++ List.replicate (pops (p.getD k 0) s) 100) ++ [117]) := by
  have hi := h.in_ hk
  refine ⟨by rw [← hi.sum]; simp, chain_push h.chain (by rw [h.head]; omega) rfl hi.ne, by rw [top_cons]; omega, hi.rest, ?_⟩
  rw [last_cons hi.ne, pop_last hi.ne]; exact h.fin
theorem levels_len_eq {p : List Int} (h : plane p = true) : (levels p).length = p.length := by
  have := plane_len' h
  rw [levels_yes h]; simp [len_lvGo]; omega
theorem rep_snoc (pre : List UInt8) (j : Nat) : (pre ++ List.replicate j 100) ++ [100] = pre ++ List.replicate (j + 1) 100 := by
  rw [List.replicate_succ']; simp

set_option maxRecDepth 100000 in
set_option maxHeartbeats 1000000 in
theorem popS (A : Option Addr) (n c : Nat) (p : List Int) (w : World) (hl : p.length = n) (ha : Rd .i64 w A p) (hn : n ≤ 1048576) : Calls Try.prog 26 #[.slice A n c] w fun e w' => e = .returned (popV p) ∧ Below w.heap.size w w' := by
  have HPl := Lib.hid (isPlaneS A n c p w hl ha hn)
  cases hp : plane p with
  | false =>
    rw [hp] at HPl
    rw [popV_no hp]
    clear ha
    go_enter Try.func26, Try.ntmps26
    go_wp2_with (go_at_call 14; refine (HPl.out).mono ?_; rintro e w' ⟨rfl, rfl⟩)
    go_ret2
    exact ⟨rfl, Below.refl _ _⟩
  | true =>
    rw [hp] at HPl
    rw [popV_yes hp]
    have HLv := Lib.hid (levelsS A n c p w hl ha hn)
    have HS := Lib.hid (PoAt.start hp)
    have HS2 := Lib.hid (LpAt.start hp)
    have HP := Lib.hid hp
    have h9 := plane_len' hp
    have hll := levels_len_eq hp
    rw [hl] at h9 hll
    obtain ⟨n1, n9⟩ := h9
    have HLL := Lib.hid hll
    have HL := Lib.hid hl
    clear ha hl hp hll
    go_enter Try.func26, Try.ntmps26
    go_wp2_with fail
    refine (HPl.out).mono ?_
    rintro e w' ⟨rfl, rfl⟩
    go_wp2_with fail
    refine (HLv.out).mono ?_
    rintro e w2 ⟨A2, c2, rfl, hB2⟩
    have HR := Lib.hid hB2.rd
    have HB := Lib.hid hB2.bel
    obtain ⟨b, o, rfl⟩ := hB2.rd.form (by rw [HLL.out]; omega)
    clear hB2
    rw [HLL.out]
    go_wp2_with fail
    go_loop [5, 6, 7] (fun v i _ => ∃ (k : Nat) (s : List Nat) (pre : List UInt8), 1 ≤ k ∧ k ≤ n ∧ i = .int .i64 (k : Int) ∧ v = .string (toB pre) ∧ Hid (PoAt p k s pre) ∧ Hid (LpAt p k s)) (fun _ i _ => n - (intOf i).toNat)
    case atStart => exact ⟨1, [0], [], by omega, by omega, rfl, rfl, HS.out, HS2.out⟩
    case round =>
      obtain ⟨k, s, pre, hk1, hk, rfl, rfl, HE, HQ⟩ := hrel
      have hcp := HR.out.at_ (k - 1) (by rw [HLL.out]; omega)
      rw [HQ.out.prev] at hcp
      have hk1' : ((k : Int) - 1) = ((k - 1 : Nat) : Int) := by omega
      by_cases hlt : k < n
      · have hcn := HR.out.at_ k (by rw [HLL.out]; exact hlt)
        rw [HQ.out.now (by rw [HL.out]; exact hlt)] at hcn
        have HE2 := Lib.hid (HE.out.next (by rw [HL.out]; exact hlt))
        have HQ2 := Lib.hid (HQ.out.next (by rw [HL.out]; exact hlt))
        have hpl := pop_len (p.getD k 0) s
        have hin := HE.out.in_ (by rw [HL.out]; exact hlt)
        have hpos : 0 < (popTo (p.getD k 0) s).length := List.length_pos_iff.2 hin.ne
        have hsm := HE2.out.small HP.out
        obtain ⟨x, hx⟩ : ∃ x, x = p.getD k 0 := ⟨_, rfl⟩
        rw [← hx] at hcn HE2 HQ2 hpl hpos hsm
        obtain ⟨L, hL⟩ : ∃ L, L = s.length := ⟨_, rfl⟩
        obtain ⟨M, hM⟩ : ∃ M, M = pops x s := ⟨_, rfl⟩
        obtain ⟨N, hN⟩ : ∃ N, N = (popTo x s).length := ⟨_, rfl⟩
        rw [← hL] at hcp hpl
        rw [← hM] at HE2 hpl hsm
        rw [← hN] at hcn hpl hpos
        have hlt' : (k : Int) < (n : Int) := by omega
        have hsm2 : pre.length + M + 1 ≤ 16 := by simp at hsm; omega
        have hNM : (N : Int) = (L : Int) - (M : Int) := by omega
        have hML : M < L := by omega
        have hL16 : L ≤ 17 := by have h1 := chain_len HE.out.chain; rw [HE.out.head] at h1; omega
        rw [hNM] at hcn
        clear hx hL hM hN hpl hin hpos hsm HE HQ hNM hk1'
        go_wp2_with fail
        go_loop [5, 7] (fun v kk => ∃ j : Nat, j ≤ M ∧ v = .string (toB (pre ++ List.replicate j 100)) ∧ kk = .int .i64 ((L : Int) - 1 - j)) (fun _ kk => (intOf kk + 1).toNat)
        case atStart => exact ⟨0, by omega, by simp, by go_num⟩
        case round =>
          obtain ⟨j, hj, rfl, rfl⟩ := hrel
          have hsz : (toB (pre ++ List.replicate j 100)).size ≤ 16 := by rw [toB_size]; simp; omega
          by_cases hjM : j < M
          · have HX := Lib.hid (toB_snoc (pre ++ List.replicate j 100) 100)
            rw [rep_snoc] at HX
            obtain ⟨z, hz⟩ : ∃ z, z = toB (pre ++ List.replicate j 100) := ⟨_, rfl⟩
            rw [← hz] at hsz HX ⊢
            clear hz
            have hd : (L : Int) - (M : Int) ≤ (L : Int) - 1 - (j : Int) := by omega
            go_wp2
            go_round
            case rel => exact ⟨j + 1, by omega, by rw [HX.out], by go_num⟩
            case measure => simp [intOf]; omega
          · obtain rfl : j = M := by omega
            have HX := Lib.hid (toB_snoc (pre ++ List.replicate j 100) 117)
            obtain ⟨z, hz⟩ : ∃ z, z = toB (pre ++ List.replicate j 100) := ⟨_, rfl⟩
            rw [← hz] at hsz HX ⊢
            clear hz
            have hd : ¬ ((L : Int) - (j : Int) ≤ (L : Int) - 1 - (j : Int)) := by omega
            go_wp2
            go_round
            case rel => exact ⟨k + 1, _, _, by omega, by omega, by go_num, by rw [HX.out], HE2.out, HQ2.out⟩
            case measure => simp [intOf]; omega
      · obtain rfl : k = n := by omega
        have HI := Lib.hid (HE.out.end_ (by rw [HL.out]) hk1)
        have hL16 : s.length ≤ 17 := by have h1 := chain_len HE.out.chain; rw [HE.out.head] at h1; omega
        have hL1 : 1 ≤ s.length := by
          cases hs : s with
          | nil => have := HI.out.fin; rw [hs] at this; cases this
          | cons a q => simp
        have hsum := HI.out.sum
        have hsm := pathOf_len HP.out
        rw [← hsum] at hsm
        have HSum := Lib.hid hsum
        obtain ⟨L, hL⟩ : ∃ L, L = s.length := ⟨_, rfl⟩
        rw [← hL] at hcp hL16 hL1 hsm HSum
        have hsm2 : pre.length + L ≤ 17 := by simp at hsm; omega
        clear hsum hL hsm HE HQ
        go_wp2_with fail
        go_loop [5, 8] (fun v kk => ∃ j : Nat, j + 1 ≤ L ∧ v = .string (toB (pre ++ List.replicate j 100)) ∧ kk = .int .i64 ((L : Int) - 1 - j)) (fun _ kk => (intOf kk + 1).toNat)
        case atStart => exact ⟨0, by omega, by simp, by go_num⟩
        case round =>
          obtain ⟨j, hj, rfl, rfl⟩ := hrel
          have hsz : (toB (pre ++ List.replicate j 100)).size ≤ 17 := by rw [toB_size]; simp; omega
          by_cases hjM : j + 1 < L
          · have HX := Lib.hid (toB_snoc (pre ++ List.replicate j 100) 100)
            rw [rep_snoc] at HX
            obtain ⟨z, hz⟩ : ∃ z, z = toB (pre ++ List.replicate j 100) := ⟨_, rfl⟩
            rw [← hz] at hsz HX ⊢
            clear hz
            have hd : 0 < (L : Int) - 1 - (j : Int) := by omega
            go_wp2
            go_round
            case rel => exact ⟨j + 1, by omega, by rw [HX.out], by go_num⟩
            case measure => simp [intOf]; omega
          · obtain rfl : L = j + 1 := by omega
            have HZ : Hid (toB (pre ++ List.replicate j 100) = toB (pathOf p)) := by show _ = _; rw [← HSum.out]; rfl
            have hd : ¬ (0 < ((j + 1 : Nat) : Int) - 1 - (j : Int)) := by omega
            go_wp2
            go_ret2
            exact ⟨by rw [← HZ.out]; rfl, HB.out⟩
set_option maxRecDepth 100000 in
set_option maxHeartbeats 1000000 in
theorem law_FnExactPathOfPlane (A : Option Addr) (n c : Nat) (zs : List Int) (w : World) (h : Row .i64 w A n zs) : Calls Try.prog 7 #[.slice A n c] w fun e w' => e = .returned (.bool true) ∧ Below w.heap.size w w' := by
  obtain ⟨hl, hm, _, hr⟩ := h
  unfold maxLen at hm
  subst hl
  by_cases hb : zs.length ≤ 1048576
  · have HR := Lib.hid hr
    have HT := Lib.hid (fun w' (hbw : Below w.heap.size w w') => toIntS A zs.length c zs w' rfl (hr.keep hbw) (by omega))
    have HS := Lib.hid (fun A c w (hr : Rd .i64 w A zs) => popS A zs.length c zs w rfl hr hb)
    have HI := Lib.hid (fun A c w (hr : Rd .i64 w A zs) => popI A zs.length c zs w rfl hr hb)
    obtain ⟨p, b, hv⟩ := popV_shape zs
    rw [hv] at HS HI
    clear hv hr
    go_enter Try.func7, Try.ntmps7
    go_wp2_with fail
    refine (HT.out _ (Below.refl _ _)).mono ?_
    rintro e w1 ⟨A1, c1, rfl, hB1⟩
    go_wp2_with fail
    refine (HS.out _ _ _ hB1.rd).mono ?_
    rintro e w2 ⟨rfl, hb2⟩
    have L2 := Lib.hid (below_then hB1.bel hb2)
    clear hB1 hb2
    go_wp2_with fail
    refine (HT.out _ L2.out).mono ?_
    rintro e w3 ⟨A3, c3, rfl, hB3⟩
    have G3 := Lib.hid hB3
    have L3 := Lib.hid (below_then L2.out hB3.bel)
    clear hB3
    go_wp2_with fail
    refine (HI.out _ _ _ G3.out.rd).mono ?_
    rintro e w4 ⟨rfl, hb4⟩
    have L4 := Lib.hid (below_then L3.out hb4)
    have R4 := Lib.hid (G3.out.rd.keep hb4)
    clear hb4
    go_wp2_with fail
    refine (HT.out _ L4.out).mono ?_
    rintro e w5 ⟨A5, c5, rfl, hB5⟩
    have L5 := Lib.hid (below_then L4.out hB5.bel)
    have G5 := Lib.hid hB5
    clear hB5
    go_wp2_with fail
    refine (eqIntS A3 A5 c3 c5 zs _ (R4.out.keep G5.out.bel) G5.out.rd (by omega)).mono ?_
    rintro e w6 ⟨rfl, hb6⟩
    go_wp2_with fail
    go_ret
    exact ⟨rfl, below_then L5.out hb6⟩
  · clear hr
    go_enter Try.func7, Try.ntmps7
    go_wp2
    go_ret
    exact ⟨rfl, Below.refl _ _⟩
end Go.Proofs.Ytndehfkamfmmeaa
