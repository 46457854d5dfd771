/-
  BinaryOfLevels of both packages and its law, walked.
-/
import Derived.Test.YthbfockobnfomaaBinT
import Derived.Test.YthbfockobnfomaaPlH
import Derived.Test.YthbfockobnfomaaOps
import Derived.Test.YthbfockobnfomaaIntArg
namespace Go.Proofs.Ythbfockobnfomaa
open Go.RowKit
/-- What treeOfLevels hands back. -/
def TlT (zs : List Int) (a d : Nat) (w : World) (e : Ending) (w' : World) : Prop :=
  (∃ (t : Tr) (en : Nat) (p : Option Addr), a < en ∧ en ≤ zs.length ∧ LReads d (zs.drop a) t (zs.drop en) ∧ (∀ x ∈ t.lev d, x ≤ 8) ∧ e = .returned (.tuple #[.pointer p, .int .i64 (en : Int)]) ∧ TreeAt w' (.pointer p) t ∧ Below w.heap.size w w') ∨
  ((∀ t r, LReads d (zs.drop a) t r → ∃ x ∈ t.lev d, 8 < x) ∧ ∃ p : Option Addr, e = .returned (.tuple #[.pointer p, .int .i64 (-1)]) ∧ Below w.heap.size w w')

theorem tlNeg (A : Option Addr) (n c : Nat) (d : Int) (w : World) (_ : n ≤ 1000) : Calls Try.prog 62 #[.slice A n c, .int .i64 (-1), .int .i64 d] w fun e w' => e = .returned (.tuple #[.pointer none, .int .i64 (-1)]) ∧ w = w' := by
  go_enter Try.func62, Try.ntmps62
  go_wp2
  go_ret2
  exact ⟨rfl, rfl⟩
set_option maxRecDepth 100000 in
set_option maxHeartbeats 1000000 in
theorem tlT (A : Option Addr) (n c : Nat) (zs : List Int) (w0 : World) (hl : zs.length = n) (ha : Rd .i64 w0 A zs) (hn : n ≤ 1000) : ∀ (m a d : Nat), 9 - d ≤ m → a ≤ n → d ≤ 9 → ∀ w : World, Below w0.heap.size w0 w → Calls Try.prog 62 #[.slice A n c, .int .i64 (a : Int), .int .i64 (d : Int)] w (TlT zs a d w) := by
  have HA := Lib.hid ha
  have HL := Lib.hid hl
  clear ha hl
  intro m
  induction m with
  | zero =>
    intro a d hd ha hd9 w hb
    obtain rfl : d = 9 := by omega
    have HN : Hid (∀ t r, LReads 9 (zs.drop a) t r → ∃ x ∈ t.lev 9, 8 < x) := by
      intro t r _
      cases h : t.lev 9 with
      | nil => exact absurd h (lev_ne t 9)
      | cons y q => exact ⟨y, by simp, by have := lev_lo t 9 y (by rw [h]; simp); omega⟩
    by_cases hlt : a < n
    · have hlt' : ¬ ((n : Int) ≤ (a : Int)) := by omega
      have hc9 : ((9 : Nat) : Int) = 9 := rfl
      go_enter Try.func62, Try.ntmps62
      go_wp2
      go_ret2
      exact .inr ⟨HN.out, _, rfl, Below.refl _ _⟩
    · have hlt' : (n : Int) ≤ (a : Int) := by omega
      go_enter Try.func62, Try.ntmps62
      go_wp2
      go_ret2
      exact .inr ⟨HN.out, _, rfl, Below.refl _ _⟩
  | succ m ih =>
    intro a d hd ha hd9 w hb
    by_cases hlt : a < n
    · have hlt' : ¬ ((n : Int) ≤ (a : Int)) := by omega
      have hlt2 : (a : Int) < (n : Int) := by omega
      by_cases h9 : d = 9
      · subst h9
        have HN : Hid (∀ t r, LReads 9 (zs.drop a) t r → ∃ x ∈ t.lev 9, 8 < x) := by
          intro t r _
          cases h : t.lev 9 with
          | nil => exact absurd h (lev_ne t 9)
          | cons y q => exact ⟨y, by simp, by have := lev_lo t 9 y (by rw [h]; simp); omega⟩
        clear ih
        go_enter Try.func62, Try.ntmps62
        go_wp2
        go_ret2
        exact .inr ⟨HN.out, _, rfl, Below.refl _ _⟩
      · have hd8 : ¬ ((8 : Int) < (d : Int)) := by omega
        obtain ⟨b, o, rfl⟩ := HA.out.form (by rw [HL.out]; omega)
        have hca := (HA.out.keep hb).at_ a (by rw [HL.out]; exact hlt)
        have hdr := drop_one zs a (by rw [HL.out]; exact hlt)
        obtain ⟨x, hx⟩ : ∃ x, x = zs.getD a 0 := ⟨_, rfl⟩
        rw [← hx] at hca hdr
        by_cases hxl : x < (d : Int)
        · have HN : Hid (∀ t r, LReads d (zs.drop a) t r → ∃ x ∈ t.lev d, 8 < x) := by
            intro t r h
            rw [hdr] at h
            exact absurd h (lreads_low hxl)
          clear ih hdr hx
          go_enter Try.func62, Try.ntmps62
          go_wp2
          go_ret2
          exact .inr ⟨HN.out, _, rfl, Below.refl _ _⟩
        · by_cases hxe : x = (d : Int)
          · have e1 : (x == (d : Int)) = true := by simpa using hxe
            have HR : Hid (LReads d (zs.drop a) .lf (zs.drop (a + 1))) := by show LReads _ _ _ _; rw [hdr, hxe]; exact lreads_leaf d _
            have HX : Hid (∀ y ∈ Tr.lf.lev d, y ≤ 8) := by intro y hy; simp [Tr.lev] at hy; omega
            have HL2 : Hid (a + 1 ≤ zs.length) := by show _ ≤ _; rw [HL.out]; exact hlt
            clear ih hdr hx hxe
            go_enter Try.func62, Try.ntmps62
            go_wp2
            go_ret2
            exact .inl ⟨.lf, a + 1, none, by omega, HL2.out, HR.out, HX.out, by go_num, rfl, Below.refl _ _⟩
          · have e1 : (x == (d : Int)) = false := by simpa using hxe
            have hgt : (d : Int) < x := by omega
            have HD : Hid (zs.drop a = x :: zs.drop (a + 1)) := hdr
            have HI := Lib.hid (fun a (ha : a ≤ n) w hb => ih a (d + 1) (by omega) ha (by omega) w hb)
            rw [show ((d + 1 : Nat) : Int) = (d : Int) + 1 by omega] at HI
            clear ih hdr hx hxe
            go_enter Try.func62, Try.ntmps62
            go_wp2_with fail
            refine (HI.out a (by omega) _ hb).mono ?_
            rintro e w1 (⟨t1, en1, p1, h1, h2, hr1, hx1, rfl, ht1, hb1⟩ | ⟨hno, p1, rfl, hb1⟩)
            · have HR1 := Lib.hid hr1
              have HX1 := Lib.hid hx1
              have HT1 := Lib.hid ht1
              have hb01 := below_then hb hb1
              have hen : en1 ≤ n := by rw [← HL.out]; exact h2
              clear hr1 hx1 ht1 h2
              go_wp2_with fail
              refine (HI.out en1 hen _ hb01).mono ?_
              rintro e w2 (⟨t2, en2, p2, h3, h4, hr2, hx2, rfl, ht2, hb2⟩ | ⟨hno, p2, rfl, hb2⟩)
              · have HR2 : Hid (LReads d (zs.drop a) (.nd t1 t2) (zs.drop en2)) := by show LReads _ _ _ _; exact lreads_node HR1.out hr2
                have HX2 : Hid (∀ y ∈ (Tr.nd t1 t2).lev d, y ≤ 8) := by
                  intro y hy
                  rcases List.mem_append.1 hy with h | h
                  · exact HX1.out y h
                  · exact hx2 y h
                have HT : Hid (TreeAt (w2.alloc (.cells #[.pointer p1, .pointer p2] 52)) (.pointer (some ⟨w2.heap.size, 0, none⟩)) (Tr.nd t1 t2)) := (HT1.out.keep hb2).node ht2
                have hbb := below_then hb1 hb2
                have HB := Lib.hid (hbb.alloc hbb.size (.cells #[.pointer p1, .pointer p2] 52))
                have H4 := Lib.hid h4
                clear hr2 hx2 ht2 hb1 hb2 hbb hb01 h4
                go_wp2
                go_ret2
                exact .inl ⟨_, en2, _, by omega, H4.out, HR2.out, HX2.out, rfl, HT.out, HB.out⟩
              · have HN : Hid (∀ t r, LReads d (zs.drop a) t r → ∃ x ∈ t.lev d, 8 < x) := by
                  intro t r h
                  have h' := h
                  rw [HD.out] at h'
                  obtain ⟨u, v, r1, rfl, h5, h6⟩ := lreads_open hgt h'
                  rw [← HD.out] at h5
                  obtain ⟨rfl, rfl⟩ := lreads_uniq h5 HR1.out
                  obtain ⟨y, hy, hy8⟩ := hno _ _ h6
                  exact ⟨y, List.mem_append.2 (.inr hy), hy8⟩
                have hbb := below_then hb1 hb2
                have HB := Lib.hid (hbb.alloc hbb.size (.cells #[.pointer p1, .pointer p2] 52))
                clear hno hb1 hb2 hbb hb01
                go_wp2
                go_ret2
                exact .inr ⟨HN.out, _, rfl, HB.out⟩
            · have HN : Hid (∀ t r, LReads d (zs.drop a) t r → ∃ x ∈ t.lev d, 8 < x) := by
                intro t r h
                have h' := h
                rw [HD.out] at h'
                obtain ⟨u, v, r1, rfl, h5, h6⟩ := lreads_open hgt h'
                rw [← HD.out] at h5
                obtain ⟨y, hy, hy8⟩ := hno _ _ h5
                exact ⟨y, List.mem_append.2 (.inl hy), hy8⟩
              have HB := Lib.hid (hb1.alloc hb1.size (.cells #[.pointer p1, .pointer none] 52))
              clear hno
              go_wp2_with fail
              refine (tlNeg _ n c _ _ hn).mono ?_
              rintro e w2 ⟨rfl, rfl⟩
              go_wp2
              go_ret2
              exact .inr ⟨HN.out, _, rfl, HB.out⟩
    · have hlt' : (n : Int) ≤ (a : Int) := by omega
      have HN : Hid (∀ t r, LReads d (zs.drop a) t r → ∃ x ∈ t.lev d, 8 < x) := by
        intro t r h
        rw [List.drop_of_length_le (by rw [HL.out]; omega)] at h
        exact absurd h (lreads_nil _ _ _)
      clear ih
      go_enter Try.func62, Try.ntmps62
      go_wp2
      go_ret2
      exact .inr ⟨HN.out, _, rfl, Below.refl _ _⟩
/-- The list is the levels of a tree with at most 8 nodes. -/
def Lev (zs : List Int) : Prop := ∃ t : Tr, zs = t.lev 0 ∧ t.nodes ≤ 8
theorem lev_of {zs : List Int} {t : Tr} (h : LReads 0 zs t []) (h9 : zs.length ≤ 9) : zs = t.lev 0 ∧ t.nodes ≤ 8 := by
  unfold LReads at h
  rw [List.append_nil] at h
  refine ⟨h, ?_⟩
  have := len_lev t 0
  rw [← h] at this; omega

set_option maxRecDepth 100000 in
set_option maxHeartbeats 1000000 in
theorem bolI_yes (A : Option Addr) (c : Nat) (t : Tr) (hn : t.nodes ≤ 8) (w : World) (ha : Rd .i64 w A (t.lev 0)) : Calls Try.prog 24 #[.slice A (t.lev 0).length c] w fun e w' => e = .returned (.tuple #[.string (toB t.txt), .bool true]) ∧ Below w.heap.size w w' := by
  have hll := len_lev t 0
  have HT := Lib.hid (fun w' hb => tlT A (t.lev 0).length c (t.lev 0) w rfl ha (by omega) 9 0 0 (by omega) (by omega) (by omega) w' hb)
  have HX := Lib.hid (textT t (by omega))
  have HR : Hid (LReads 0 ((t.lev 0).drop 0) t []) := by show LReads _ _ _ _; unfold LReads; simp
  have HH : Hid (∀ x ∈ t.lev 0, x ≤ 8) := by intro x hx; have := lev_hi t 0 x hx; omega
  obtain ⟨zs, hz⟩ : ∃ zs, zs = t.lev 0 := ⟨_, rfl⟩
  rw [← hz] at HT HR hll ⊢
  have i1 := inR_yes (x := (zs.length : Int)) (lo := 1) (hi := 9) (by omega) (by omega)
  have h9 : zs.length ≤ 9 := by omega
  clear hz ha hll
  go_enter Try.func24, Try.ntmps24
  go_wp2_with (go_at_call 61; refine (withinC _ _ _ _).mono ?_; rintro e w' ⟨rfl, rfl⟩)
  refine (HT.out _ (Below.refl _ _)).mono ?_
  rintro e w1 (⟨t1, en1, p1, h1, h2, hr1, hx1, rfl, ht1, hb1⟩ | ⟨hno, p1, rfl, hb1⟩)
  · obtain ⟨rfl, hd⟩ := lreads_uniq hr1 HR.out
    have he : en1 = zs.length := by
      have := congrArg List.length hd
      rw [List.length_drop] at this
      simp at this; omega
    subst he
    have e1 : ((zs.length : Int) != (zs.length : Int)) = false := by simp
    have HT1 := Lib.hid ht1
    clear hr1 hx1 hd ht1
    go_wp2_with fail
    refine (HX.out _ _ HT1.out).mono ?_
    rintro e w2 ⟨rfl, q, rfl⟩
    go_wp2_with fail
    go_ret2
    exact ⟨rfl, below_drewN hb1 _⟩
  · obtain ⟨x, hx, h8⟩ := hno _ _ HR.out
    have := HH.out x hx
    omega
set_option maxRecDepth 100000 in
set_option maxHeartbeats 1000000 in
theorem bolI_no (A : Option Addr) (c : Nat) (zs : List Int) (w : World) (hn : zs.length ≤ 1048576) (ha : Rd .i64 w A zs) (h : ¬ Lev zs) : Calls Try.prog 24 #[.slice A zs.length c] w fun e w' => e = .returned (.tuple #[.string ByteArray.empty, .bool false]) ∧ Below w.heap.size w w' := by
  by_cases hin : 1 ≤ zs.length ∧ zs.length ≤ 9
  · obtain ⟨h1, h9⟩ := hin
    have HT := Lib.hid (fun w' hb => tlT A zs.length c zs w rfl ha (by omega) 9 0 0 (by omega) (by omega) (by omega) w' hb)
    have i1 := inR_yes (x := (zs.length : Int)) (lo := 1) (hi := 9) (by omega) (by omega)
    have HN := Lib.hid h
    clear ha h
    go_enter Try.func24, Try.ntmps24
    go_wp2_with (go_at_call 61; refine (withinC _ _ _ _).mono ?_; rintro e w' ⟨rfl, rfl⟩)
    refine (HT.out _ (Below.refl _ _)).mono ?_
    rintro e w1 (⟨t1, en1, p1, h1, h2, hr1, hx1, rfl, ht1, hb1⟩ | ⟨hno, p1, rfl, hb1⟩)
    · have hne : en1 ≠ zs.length := by
        intro he
        subst he
        rw [List.drop_zero, List.drop_of_length_le (Nat.le_refl _)] at hr1
        exact HN.out ⟨t1, lev_of hr1 h9⟩
      have e1 : ((en1 : Int) != (zs.length : Int)) = true := by rw [bne_iff_ne]; omega
      clear hr1 hx1 hne ht1
      go_wp2
      go_ret2
      exact ⟨rfl, hb1⟩
    · have e1 : ((-1 : Int) != (zs.length : Int)) = true := by rw [bne_iff_ne]; omega
      clear hno
      go_wp2
      go_ret2
      exact ⟨rfl, hb1⟩
  · have i1 := inR_no (x := (zs.length : Int)) (lo := 1) (hi := 9) (by omega)
    clear ha h hin
    go_enter Try.func24, Try.ntmps24
    go_wp2_with (go_at_call 61; refine (withinC _ _ _ _).mono ?_; rintro e w' ⟨rfl, rfl⟩)
    go_ret2
    exact ⟨rfl, Below.refl _ _⟩
/-- What l6Build hands back. -/
def BlS (zs : List Int) (d : Nat) (w : World) (e : Ending) (w' : World) : Prop :=
  (∃ (t : Tr) (en : Nat), 1 ≤ en ∧ en ≤ zs.length ∧ t.nodes + 1 = en ∧ LReads d zs t (zs.drop en) ∧ e = .returned (.tuple #[.string (toB t.txt), .int .i64 (en : Int)]) ∧ w = w') ∨
  ((∀ t r, ¬ LReads d zs t r) ∧ e = .returned (.tuple #[.string ByteArray.empty, .int .i64 0]) ∧ w = w')
theorem Rd.drop_ {k : IntKind} {w : World} {b o : Nat} {l : List Int} (h : Rd k w (some ⟨b, o, none⟩) l) (m : Nat) : Rd k w (some ⟨b, o + m, none⟩) (l.drop m) := by
  intro i hi
  rw [List.length_drop] at hi
  obtain ⟨b', o', hA, hlt, hc⟩ := h (m + i) (by omega)
  simp only [Option.some.injEq, Addr.mk.injEq, and_true] at hA
  obtain ⟨rfl, rfl⟩ := hA
  refine ⟨b, o + m, rfl, hlt, ?_⟩
  rw [Nat.add_assoc, hc]
  simp [List.getD]
theorem toB_par2 (l r : List UInt8) : (⟨#[40]⟩ : ByteArray) ++ toB l ++ toB r ++ ⟨#[41]⟩ = toB (40 :: (l ++ (r ++ [41]))) := by
  apply ByteArray.ext
  simp [toB, ByteArray.data_append]

set_option maxRecDepth 100000 in
set_option maxHeartbeats 1000000 in
theorem blS : ∀ (m d : Nat), 9 - d ≤ m → d ≤ 9 → ∀ (zs : List Int) (A : Option Addr) (c : Nat) (w : World), zs.length ≤ 9 → zs.length ≤ c → c ≤ 9223372036854775807 → Rd .i64 w A zs → (∀ x ∈ zs, x ≤ 8) → Calls Try.prog 60 #[.slice A zs.length c, .int .i64 (d : Int)] w (BlS zs d w) := by
  intro m
  induction m with
  | zero =>
    intro d hd hd9 zs A c w hn hc hcm ha hx8
    obtain rfl : d = 9 := by omega
    cases zs with
    | nil =>
      have HN := Lib.hid (lreads_nil 9)
      clear ha
      go_enter Try.func60, Try.ntmps60
      go_wp2
      go_ret2
      exact .inr ⟨HN.out, rfl, rfl⟩
    | cons x q =>
      have hxx := hx8 x (by simp)
      obtain ⟨b, o, rfl⟩ := ha.form (by simp)
      have hca := ha.at_ 0 (by simp)
      rw [Nat.add_zero] at hca
      have hg : (x :: q).getD 0 0 = x := rfl
      rw [hg] at hca
      have HN : Hid (∀ t r, ¬ LReads 9 (x :: q) t r) := fun t r => lreads_low (by omega)
      have hz : (((x :: q).length : Int) == 0) = false := by rw [beq_eq_false_iff_ne, List.length_cons]; omega
      have hp : 0 < (x :: q).length := by simp
      obtain ⟨n, hnn⟩ : ∃ n, n = (x :: q).length := ⟨_, rfl⟩
      rw [← hnn] at hz hp ⊢
      have hlt : x < 9 := by omega
      clear ha hx8 hg hnn hn hc
      go_enter Try.func60, Try.ntmps60
      go_wp2
      go_ret2
      exact .inr ⟨HN.out, rfl, rfl⟩
  | succ m ih =>
    intro d hd hd9 zs A c w hn hc hcm ha hx8
    cases zs with
    | nil =>
      have HN := Lib.hid (lreads_nil d)
      clear ha ih
      go_enter Try.func60, Try.ntmps60
      go_wp2
      go_ret2
      exact .inr ⟨HN.out, rfl, rfl⟩
    | cons x q =>
      have hxx := hx8 x (by simp)
      obtain ⟨b, o, rfl⟩ := ha.form (by simp)
      have hca := ha.at_ 0 (by simp)
      rw [Nat.add_zero] at hca
      have hg : (x :: q).getD 0 0 = x := rfl
      rw [hg] at hca
      have hz : (((x :: q).length : Int) == 0) = false := by rw [beq_eq_false_iff_ne, List.length_cons]; omega
      have hp : 0 < (x :: q).length := by simp
      by_cases hxl : x < (d : Int)
      · have HN : Hid (∀ t r, ¬ LReads d (x :: q) t r) := fun t r => lreads_low hxl
        obtain ⟨n, hnn⟩ : ∃ n, n = (x :: q).length := ⟨_, rfl⟩
        rw [← hnn] at hz hp ⊢
        clear ha hx8 hg hnn hn hc ih
        go_enter Try.func60, Try.ntmps60
        go_wp2
        go_ret2
        exact .inr ⟨HN.out, rfl, rfl⟩
      · by_cases hxe : x = (d : Int)
        · have e1 : (x == (d : Int)) = true := by simpa using hxe
          have HR : Hid (LReads d (x :: q) .lf ((x :: q).drop 1)) := by show LReads _ _ _ _; rw [hxe]; exact lreads_leaf d _
          obtain ⟨zs, hzz⟩ : ∃ zs, zs = x :: q := ⟨_, rfl⟩
          rw [← hzz] at hz hp HR ⊢
          clear ha hx8 hg hn hc ih hxe hzz
          go_enter Try.func60, Try.ntmps60
          go_wp2
          go_ret2
          exact .inl ⟨.lf, 1, by omega, by omega, rfl, HR.out, rfl, rfl⟩
        · have e1 : (x == (d : Int)) = false := by simpa using hxe
          have hgt : (d : Int) < x := by omega
          have HI1 := Lib.hid (fun w ha => ih (d + 1) (by omega) (by omega) (x :: q) (some ⟨b, o, none⟩) c w hn hc hcm ha hx8)
          have HI2 := Lib.hid (fun en A c w (h1 : en ≤ (x :: q).length) (h2 : (x :: q).length - en ≤ c) h3 ha => ih (d + 1) (by omega) (by omega) ((x :: q).drop en) A c w (by rw [List.length_drop]; omega) (by rw [List.length_drop]; exact h2) h3 ha (fun y hy => hx8 y (List.mem_of_mem_drop hy)))
          rw [show ((d + 1 : Nat) : Int) = (d : Int) + 1 by omega] at HI1 HI2
          simp only [List.length_drop] at HI2
          have HI0 := Lib.hid (fun w => ih (d + 1) (by omega) (by omega) [] (some ⟨b, o, none⟩) 0 w (by simp) (by simp) (by omega) (fun i hi => absurd hi (by simp)) (by simp))
          simp only [List.length_nil] at HI0
          rw [show ((d + 1 : Nat) : Int) = (d : Int) + 1 by omega] at HI0
          have HA := Lib.hid ha
          have HD : Hid (∀ t r, LReads d (x :: q) t r → ∃ a b r1, t = .nd a b ∧ LReads (d + 1) (x :: q) a r1 ∧ LReads (d + 1) r1 b r) := fun t r h => lreads_open hgt h
          obtain ⟨zs, hzz⟩ : ∃ zs, zs = x :: q := ⟨_, rfl⟩
          rw [← hzz] at HI1 HI2 HA HD hz hp hn hc ⊢
          clear ha hx8 hg ih hxe hzz
          go_enter Try.func60, Try.ntmps60
          go_wp2_with fail
          refine (HI1.out _ HA.out).mono ?_
          rintro e w1 (⟨t1, en1, h1, h2, h2n, hr1, rfl, rfl⟩ | ⟨hno, rfl, rfl⟩)
          · have HR1 := Lib.hid hr1
            have ez : ((en1 : Int) == 0) = false := by rw [beq_eq_false_iff_ne]; omega
            have hle : (en1 : Int) ≤ (zs.length : Int) := by omega
            clear hr1
            have HL1 := Lib.hid h2n
            clear h2n
            by_cases hec : en1 = c
            · subst hec
              have HDn : Hid (zs.drop en1 = []) := List.drop_of_length_le (by omega)
              go_wp2_with fail
              refine (HI0.out _).mono ?_
              rintro e w2 (⟨t2, en2, h3, h4, _⟩ | ⟨hno, rfl, rfl⟩)
              · exact absurd h4 (by simp; omega)
              · have HN : Hid (∀ t r, ¬ LReads d zs t r) := by
                  intro t r h
                  obtain ⟨u, v, r1, rfl, h5, h6⟩ := HD.out t r h
                  obtain ⟨rfl, rfl⟩ := lreads_uniq h5 HR1.out
                  rw [HDn.out] at h6
                  exact hno _ _ h6
                clear hno
                go_wp2
                go_ret2
                exact .inr ⟨HN.out, rfl, rfl⟩
            · have hltc : en1 < c := by omega
              go_wp2_with fail
              refine (HI2.out en1 _ (c - en1) _ h2 (by omega) (by omega) (HA.out.drop_ en1)).mono ?_
              rintro e w2 (⟨t2, en2, h3, h4, h4n, hr2, rfl, rfl⟩ | ⟨hno, rfl, rfl⟩)
              · have HR2 : Hid (LReads d zs (.nd t1 t2) (zs.drop (en1 + en2))) := by
                  show LReads _ _ _ _
                  refine lreads_node HR1.out ?_
                  rw [List.drop_drop] at hr2
                  exact hr2
                rw [List.length_drop] at h4
                have HT := Lib.hid (toB_par2 t1.txt t2.txt)
                have HV : Hid (toB (Tr.nd t1 t2).txt = toB (40 :: (t1.txt ++ (t2.txt ++ [41])))) := rfl
                have s1 : (toB t1.txt).size ≤ 30 := by rw [toB_size, len_txt]; have := HL1.out; omega
                have s2 : (toB t2.txt).size ≤ 30 := by rw [toB_size, len_txt]; omega
                have HNN : Hid ((Tr.nd t1 t2).nodes + 1 = en1 + en2) := by show _ = _; simp only [Tr.nodes]; have := HL1.out; omega
                have ez2 : ((en2 : Int) == 0) = false := by rw [beq_eq_false_iff_ne]; omega
                have hle2 : en1 + en2 ≤ zs.length := by omega
                obtain ⟨x1, hx1⟩ : ∃ x1, x1 = toB t1.txt := ⟨_, rfl⟩
                obtain ⟨x2, hx2⟩ : ∃ x2, x2 = toB t2.txt := ⟨_, rfl⟩
                rw [← hx1] at HT s1 ⊢
                rw [← hx2] at HT s2 ⊢
                have p1 : (⟨#[40]⟩ : ByteArray).size ≤ 1 := Nat.le_refl _
                have p2 : (⟨#[41]⟩ : ByteArray).size ≤ 1 := Nat.le_refl _
                have s3 : (⟨#[40]⟩ ++ x1 : ByteArray).size ≤ 31 := by rw [ByteArray.size_append]; omega
                have s4 : (⟨#[40]⟩ ++ x1 ++ x2 : ByteArray).size ≤ 61 := by rw [ByteArray.size_append]; omega
                clear hr2 hx1 hx2 h4n
                go_wp2
                go_ret2
                exact .inl ⟨_, en1 + en2, by omega, hle2, HNN.out, HR2.out, by rw [HV.out, ← HT.out]; rfl, rfl⟩
              · have HN : Hid (∀ t r, ¬ LReads d zs t r) := by
                  intro t r h
                  obtain ⟨u, v, r1, rfl, h5, h6⟩ := HD.out t r h
                  obtain ⟨rfl, rfl⟩ := lreads_uniq h5 HR1.out
                  exact hno _ _ h6
                clear hno
                go_wp2
                go_ret2
                exact .inr ⟨HN.out, rfl, rfl⟩
          · have HN : Hid (∀ t r, ¬ LReads d zs t r) := by
              intro t r h
              obtain ⟨u, v, r1, rfl, h5, h6⟩ := HD.out t r h
              exact hno _ _ h5
            clear hno
            go_wp2
            go_ret2
            exact .inr ⟨HN.out, rfl, rfl⟩
theorem lev_not_small {zs : List Int} (h : ¬ (∀ x ∈ zs, 0 ≤ x ∧ x ≤ 8)) : ¬ Lev zs := by
  rintro ⟨t, rfl, hn⟩
  apply h
  intro x hx
  have h1 := lev_lo t 0 x hx
  have h2 := lev_hi t 0 x hx
  omega
theorem lev_not_len {zs : List Int} (h : ¬ (1 ≤ zs.length ∧ zs.length ≤ 9)) : ¬ Lev zs := by
  rintro ⟨t, rfl, hn⟩
  have := len_lev t 0
  omega
/-- What BinaryOfLevels returns. -/
def BolR (zs : List Int) (v : Value) : Prop := (∃ t : Tr, zs = t.lev 0 ∧ t.nodes ≤ 8 ∧ v = .tuple #[.string (toB t.txt), .bool true]) ∨ (¬ Lev zs ∧ v = .tuple #[.string ByteArray.empty, .bool false])

set_option maxRecDepth 100000 in
set_option maxHeartbeats 1000000 in
theorem bolS_small (A : Option Addr) (c : Nat) (zs : List Int) (w : World) (hn : zs.length ≤ 1048576) (ha : Rd .i64 w A zs) (hx : ¬ (∀ x ∈ zs, 0 ≤ x ∧ x ≤ 8)) : Calls Try.prog 22 #[.slice A zs.length c] w fun e w' => e = .returned (.tuple #[.string ByteArray.empty, .bool false]) ∧ w = w' := by
  have HA := Lib.hid ha
  have HX : Hid (¬ (∀ x ∈ zs.drop 0, 0 ≤ x ∧ x ≤ 8)) := hx
  obtain ⟨n, hnn⟩ : ∃ n, n = zs.length := ⟨_, rfl⟩
  rw [← hnn] at hn ⊢
  have HN := Lib.hid hnn
  clear ha hx hnn
  go_enter Try.func22, Try.ntmps22
  go_wp2_with fail
  go_loop [4] (fun i => ∃ k : Nat, k ≤ n ∧ i = .int .i64 (k : Int) ∧ Hid (¬ (∀ x ∈ zs.drop k, 0 ≤ x ∧ x ≤ 8))) (fun i => n - (intOf i).toNat)
  case atStart => exact ⟨0, by omega, rfl, HX.out⟩
  case round =>
    obtain ⟨k, hk, rfl, HK⟩ := hrel
    by_cases hlt : k < n
    · obtain ⟨b, o, rfl⟩ := HA.out.form (by rw [← HN.out]; omega)
      have hck := HA.out.at_ k (by rw [← HN.out]; exact hlt)
      have hdk := drop_one zs k (by rw [← HN.out]; exact hlt)
      obtain ⟨x, hxk⟩ : ∃ x, x = zs.getD k 0 := ⟨_, rfl⟩
      rw [← hxk] at hck hdk
      by_cases hx8 : 0 ≤ x ∧ x ≤ 8
      · have i1 := inR_yes hx8.1 hx8.2
        have HK2 : Hid (¬ (∀ x ∈ zs.drop (k + 1), 0 ≤ x ∧ x ≤ 8)) := by
          intro h
          apply HK.out
          rw [hdk]
          intro y hy
          rcases List.mem_cons.1 hy with rfl | hy
          · exact hx8
          · exact h y hy
        clear hdk hxk hx8 HK
        go_wp2_with (go_at_call 59; refine (inC _ _ _ _).mono ?_; rintro e w' ⟨rfl, rfl⟩)
        go_round
        case rel => exact ⟨k + 1, by omega, by go_num, HK2.out⟩
        case measure => simp [intOf]; omega
      · have i1 := inR_no hx8
        clear hdk hxk hx8 HK
        go_wp2_with (go_at_call 59; refine (inC _ _ _ _).mono ?_; rintro e w' ⟨rfl, rfl⟩)
        go_ret2
        exact ⟨rfl, rfl⟩
    · exact absurd (by rw [List.drop_of_length_le (by rw [← HN.out]; omega)]; intro x hx; cases hx) HK.out
set_option maxRecDepth 100000 in
set_option maxHeartbeats 1000000 in
theorem bolS_big (A : Option Addr) (c : Nat) (zs : List Int) (w : World) (hn : zs.length ≤ 1048576) (ha : Rd .i64 w A zs) (hx : ∀ x ∈ zs, 0 ≤ x ∧ x ≤ 8) (hin : ¬ (1 ≤ zs.length ∧ zs.length ≤ 9)) : Calls Try.prog 22 #[.slice A zs.length c] w fun e w' => e = .returned (.tuple #[.string ByteArray.empty, .bool false]) ∧ w = w' := by
  have HA := Lib.hid ha
  have HX := Lib.hid hx
  have i9 := inR_no (x := (zs.length : Int)) (lo := 1) (hi := 9) (by omega)
  obtain ⟨n, hnn⟩ : ∃ n, n = zs.length := ⟨_, rfl⟩
  rw [← hnn] at hn i9 ⊢
  have HN := Lib.hid hnn
  clear ha hx hnn hin
  go_enter Try.func22, Try.ntmps22
  go_wp2_with fail
  go_loop [4] (fun i => ∃ k : Nat, k ≤ n ∧ i = .int .i64 (k : Int)) (fun i => n - (intOf i).toNat)
  case atStart => exact ⟨0, by omega, rfl⟩
  case round =>
    obtain ⟨k, hk, rfl⟩ := hrel
    by_cases hlt : k < n
    · obtain ⟨b, o, rfl⟩ := HA.out.form (by rw [← HN.out]; omega)
      have hck := HA.out.at_ k (by rw [← HN.out]; exact hlt)
      have hx8 := HX.out (zs.getD k 0) (by have : k < zs.length := by rw [← HN.out]; exact hlt
                                           simp [List.getD, this])
      obtain ⟨x, hxk⟩ : ∃ x, x = zs.getD k 0 := ⟨_, rfl⟩
      rw [← hxk] at hck hx8
      have i1 := inR_yes hx8.1 hx8.2
      clear hxk hx8
      go_wp2_with (go_at_call 59; refine (inC _ _ _ _).mono ?_; rintro e w' ⟨rfl, rfl⟩)
      go_round
      case rel => exact ⟨k + 1, by omega, by go_num⟩
      case measure => simp [intOf]; omega
    · obtain rfl : k = n := by omega
      go_wp2_with (go_at_call 59; refine (inC _ _ _ _).mono ?_; rintro e w' ⟨rfl, rfl⟩)
      go_ret2
      exact ⟨rfl, rfl⟩
set_option maxRecDepth 100000 in
set_option maxHeartbeats 1000000 in
theorem bolS_in (A : Option Addr) (c : Nat) (zs : List Int) (w : World) (hc : zs.length ≤ c) (hcm : c ≤ 9223372036854775807) (ha : Rd .i64 w A zs) (hx : ∀ x ∈ zs, 0 ≤ x ∧ x ≤ 8) (h1 : 1 ≤ zs.length) (h9 : zs.length ≤ 9) : Calls Try.prog 22 #[.slice A zs.length c] w fun e w' => (∃ v, e = .returned v ∧ BolR zs v) ∧ w = w' := by
  have HA := Lib.hid ha
  have HX := Lib.hid hx
  have HB := Lib.hid (blS 9 0 (by omega) (by omega) zs A c w h9 hc hcm ha (fun x h => (hx x h).2))
  have i9 := inR_yes (x := (zs.length : Int)) (lo := 1) (hi := 9) (by omega) (by omega)
  have H9 := Lib.hid h9
  obtain ⟨n, hnn⟩ : ∃ n, n = zs.length := ⟨_, rfl⟩
  rw [← hnn] at h1 h9 hc i9 HB ⊢
  have HN := Lib.hid hnn
  clear ha hx hnn
  go_enter Try.func22, Try.ntmps22
  go_wp2_with fail
  go_loop [4] (fun i => ∃ k : Nat, k ≤ n ∧ i = .int .i64 (k : Int)) (fun i => n - (intOf i).toNat)
  case atStart => exact ⟨0, by omega, rfl⟩
  case round =>
    obtain ⟨k, hk, rfl⟩ := hrel
    by_cases hlt : k < n
    · obtain ⟨b, o, rfl⟩ := HA.out.form (by rw [← HN.out]; omega)
      have hck := HA.out.at_ k (by rw [← HN.out]; exact hlt)
      have hx8 := HX.out (zs.getD k 0) (by have : k < zs.length := by rw [← HN.out]; exact hlt
                                           simp [List.getD, this])
      obtain ⟨x, hxk⟩ : ∃ x, x = zs.getD k 0 := ⟨_, rfl⟩
      rw [← hxk] at hck hx8
      have i1 := inR_yes hx8.1 hx8.2
      clear hxk hx8
      go_wp2_with (go_at_call 59; refine (inC _ _ _ _).mono ?_; rintro e w' ⟨rfl, rfl⟩)
      go_round
      case rel => exact ⟨k + 1, by omega, by go_num⟩
      case measure => simp [intOf]; omega
    · obtain rfl : k = n := by omega
      go_wp2_with (go_at_call 59; refine (inC _ _ _ _).mono ?_; rintro e w' ⟨rfl, rfl⟩)
      refine (HB.out).mono ?_
      rintro e w2 (⟨t2, en2, h3, h4, h4n, hr2, rfl, rfl⟩ | ⟨hno, rfl, rfl⟩)
      · by_cases hen : en2 = k
        · have HR : Hid (BolR zs (.tuple #[.string (toB t2.txt), .bool true])) := by
            subst hen
            rw [HN.out, List.drop_of_length_le (Nat.le_refl _)] at hr2
            obtain ⟨h5, h6⟩ := lev_of hr2 H9.out
            exact .inl ⟨t2, h5, h6, rfl⟩
          have e1 : ((en2 : Int) != (k : Int)) = false := by rw [hen]; simp
          clear hr2 h4n hen
          go_wp2
          go_ret2
          exact ⟨⟨_, rfl, HR.out⟩, rfl⟩
        · have HR : Hid (BolR zs (.tuple #[.string ByteArray.empty, .bool false])) := by
            refine .inr ⟨?_, rfl⟩
            rintro ⟨t, ht, _⟩
            have h5 : LReads 0 zs t [] := by unfold LReads; rw [ht]; simp
            obtain ⟨_, h6⟩ := lreads_uniq hr2 h5
            have := congrArg List.length h6
            rw [List.length_drop] at this
            simp at this
            apply hen
            have := HN.out; omega
          have e1 : ((en2 : Int) != (k : Int)) = true := by rw [bne_iff_ne]; omega
          clear hr2 h4n hen
          go_wp2
          go_ret2
          exact ⟨⟨_, rfl, HR.out⟩, rfl⟩
      · have HR : Hid (BolR zs (.tuple #[.string ByteArray.empty, .bool false])) := by
          refine .inr ⟨?_, rfl⟩
          rintro ⟨t, ht, _⟩
          exact hno t [] (by unfold LReads; rw [ht]; simp)
        have e1 : ((0 : Int) != (k : Int)) = true := by rw [bne_iff_ne]; omega
        clear hno
        go_wp2
        go_ret2
        exact ⟨⟨_, rfl, HR.out⟩, rfl⟩
theorem bolS_no (A : Option Addr) (c : Nat) (zs : List Int) (w : World) (hn : zs.length ≤ 1048576) (hc : zs.length ≤ c) (hcm : c ≤ 9223372036854775807) (ha : Rd .i64 w A zs) (h : ¬ Lev zs) : Calls Try.prog 22 #[.slice A zs.length c] w fun e w' => e = .returned (.tuple #[.string ByteArray.empty, .bool false]) ∧ Below w.heap.size w w' := by
  by_cases hx : ∀ x ∈ zs, 0 ≤ x ∧ x ≤ 8
  · by_cases hin : 1 ≤ zs.length ∧ zs.length ≤ 9
    · refine to_below ((bolS_in A c zs w hc hcm ha hx hin.1 hin.2).mono ?_)
      rintro e w' ⟨⟨v, rfl, hr⟩, rfl⟩
      rcases hr with ⟨t, ht, hn, _⟩ | ⟨_, rfl⟩
      · exact absurd ⟨t, ht, hn⟩ h
      · exact ⟨rfl, rfl⟩
    · exact to_below (bolS_big A c zs w hn ha hx hin)
  · exact to_below (bolS_small A c zs w hn ha hx)
theorem bolS_yes (A : Option Addr) (c : Nat) (t : Tr) (hn : t.nodes ≤ 8) (w : World) (hc : (t.lev 0).length ≤ c) (hcm : c ≤ 9223372036854775807) (ha : Rd .i64 w A (t.lev 0)) : Calls Try.prog 22 #[.slice A (t.lev 0).length c] w fun e w' => e = .returned (.tuple #[.string (toB t.txt), .bool true]) ∧ Below w.heap.size w w' := by
  have hx : ∀ x ∈ t.lev 0, 0 ≤ x ∧ x ≤ 8 := by
    intro x hx
    have h1 := lev_lo t 0 x hx
    have h2 := lev_hi t 0 x hx
    omega
  have hll := len_lev t 0
  refine to_below ((bolS_in A c (t.lev 0) w hc hcm ha hx (by omega) (by omega)).mono ?_)
  rintro e w' ⟨⟨v, rfl, hr⟩, rfl⟩
  rcases hr with ⟨t2, ht, _, rfl⟩ | ⟨hno, _⟩
  · have h1 : LReads 0 (t.lev 0) t [] := by unfold LReads; simp
    have h2 : LReads 0 (t.lev 0) t2 [] := by unfold LReads; rw [ht]; simp
    obtain ⟨rfl, _⟩ := lreads_uniq h1 h2
    exact ⟨rfl, rfl⟩
  · exact absurd ⟨t, rfl, hn⟩ hno
theorem bol_law (zs : List Int) (hn : zs.length ≤ 1048576) : ∃ s b, (∀ A c w, zs.length ≤ c → c ≤ 9223372036854775807 → Rd .i64 w A zs → Calls Try.prog 22 #[.slice A zs.length c] w fun e w' => e = .returned (.tuple #[.string s, .bool b]) ∧ Below w.heap.size w w') ∧
    (∀ A c w, zs.length ≤ c → c ≤ 9223372036854775807 → Rd .i64 w A zs → Calls Try.prog 24 #[.slice A zs.length c] w fun e w' => e = .returned (.tuple #[.string s, .bool b]) ∧ Below w.heap.size w w') := by
  by_cases h : Lev zs
  · obtain ⟨t, rfl, ht⟩ := h
    exact ⟨_, _, fun A c w hc hm ha => bolS_yes A c t ht w hc hm ha, fun A c w _ _ ha => bolI_yes A c t ht w ha⟩
  · exact ⟨_, _, fun A c w hc hm ha => bolS_no A c zs w hn hc hm ha h, fun A c w _ _ ha => bolI_no A c zs w hn ha h⟩
set_option maxRecDepth 100000 in
set_option maxHeartbeats 1000000 in
theorem law_FnExactBinaryOfLevels (A : Option Addr) (n c : Nat) (zs : List Int) (w : World) (h : Row .i64 w A n zs) : Calls Try.prog 6 #[.slice A n c] w fun e w' => e = .returned (.bool true) ∧ Below w.heap.size w w' := by
  obtain ⟨hl, hm, _, hr⟩ := h
  unfold maxLen at hm
  subst hl
  by_cases hb : zs.length ≤ 1048576
  · have HR := Lib.hid hr
    have HT := Lib.hid (fun w' (hbw : Below w.heap.size w w') => toIntS A zs.length c zs w' rfl (hr.keep hbw) (by omega))
    obtain ⟨p, b, hS, hI⟩ := bol_law zs hb
    have HS := Lib.hid hS
    have HI := Lib.hid hI
    clear hS hI hr
    go_enter Try.func6, Try.ntmps6
    go_wp2_with fail
    refine (HT.out _ (Below.refl _ _)).mono ?_
    rintro e w1 ⟨A1, c1, rfl, hB1⟩
    go_wp2_with fail
    refine (HS.out _ _ _ hB1.cap hB1.capm hB1.rd).mono ?_
    rintro e w2 ⟨rfl, hb2⟩
    have L2 := Lib.hid (below_then hB1.bel hb2)
    clear hB1 hb2
    go_wp2_with fail
    refine (HT.out _ L2.out).mono ?_
    rintro e w3 ⟨A3, c3, rfl, hB3⟩
    have G3 := Lib.hid hB3
    have L3 := Lib.hid (below_then L2.out hB3.bel)
    clear hB3
    go_wp2_with fail
    refine (HI.out _ _ _ G3.out.cap G3.out.capm G3.out.rd).mono ?_
    rintro e w4 ⟨rfl, hb4⟩
    have L4 := Lib.hid (below_then L3.out hb4)
    have R4 := Lib.hid (G3.out.rd.keep hb4)
    clear hb4
    go_wp2_with fail
    refine (HT.out _ L4.out).mono ?_
    rintro e w5 ⟨A5, c5, rfl, hB5⟩
    have L5 := Lib.hid (below_then L4.out hB5.bel)
    have G5 := Lib.hid hB5
    clear hB5
    go_wp2_with fail
    refine (eqIntS A3 A5 c3 c5 zs _ (R4.out.keep G5.out.bel) G5.out.rd (by omega)).mono ?_
    rintro e w6 ⟨rfl, hb6⟩
    go_wp2_with fail
    go_ret
    exact ⟨rfl, below_then L5.out hb6⟩
  · clear hr
    go_enter Try.func6, Try.ntmps6
    go_wp2
    go_ret
    exact ⟨rfl, Below.refl _ _⟩
end Go.Proofs.Ythbfockobnfomaa
