/-
  PathsOf of both packages and its law, walked: all paths of a size in order.
-/
import Derived.Test.YtmjnafpjfodbdaaOps
import Derived.Test.YtmjnafpjfodbdaaStrL
import Derived.Test.YtmjnafpjfodbdaaBsP
import Derived.OneCell
import Derived.Laws.EntriesVeiled
namespace Go.Proofs.Ytmjnafpjfodbdaa
open Go.RowKit
/-- All words that go on with so many u and d; f: how many letters are to come. -/
def allP : Nat → List UInt8 → Nat → Nat → List (List UInt8)
  | 0, w, _, _ => [w]
  | f + 1, w, up, down => (if 0 < up then allP f (w ++ [117]) (up - 1) down else []) ++ (if up < down then allP f (w ++ [100]) up (down - 1) else [])
theorem allP_len : ∀ (f : Nat) (w : List UInt8) (up down : Nat), (allP f w up down).length ≤ 2 ^ f := by
  intro f
  induction f with
  | zero => intro w up down; simp [allP]
  | succ f ih =>
    intro w up down
    have h1 := ih (w ++ [117]) (up - 1) down
    have h2 := ih (w ++ [100]) up (down - 1)
    simp only [allP, List.length_append, Nat.pow_succ]
    split <;> split <;> simp <;> omega
theorem allP_pos : ∀ (f : Nat) (w : List UInt8) (up down : Nat), up ≤ down → f = up + down → 0 < (allP f w up down).length := by
  intro f
  induction f with
  | zero => intro w up down _ _; simp [allP]
  | succ f ih =>
    intro w up down hle hf
    simp only [allP, List.length_append]
    by_cases h : up < down
    · rw [if_pos h]
      have := ih (w ++ [100]) up (down - 1) (by omega) (by omega)
      omega
    · rw [if_pos (show 0 < up by omega)]
      have := ih (w ++ [117]) (up - 1) down (by omega) (by omega)
      omega
theorem allP_zero (w : List UInt8) (f up down : Nat) (h0 : down = 0) (hle : up ≤ down) (hf : f = up + down) : allP f w up down = [w] := by
  obtain rfl : f = 0 := by omega
  rfl
/-- append of what another slice holds. -/
theorem buf_appendN {P : Program} {w0 w1 w : World} {ops : Array Oper} {rest : List Oper} {o : Oper} {a : Act} {Q : Exit → Act → World → Prop} {t e : TypeId} {z : Value} {bytes : Nat} (he : Elem P t e z bytes)
    {v : Value} {xs news : List Value} {A : Option Addr} {c m : Nat} (hgd : o.guard = none) (s r : Operand)
    (ho : o.op = .call { callee := .builtin .append, args := #[s, r], argTypes := #[t, t] })
    (hb : Buf w0 w e v xs) (hs : a.eval s = v) (hn : Buf w1 w e (.slice A m c) news) (hx : a.eval r = .slice A m c) (h0 : 0 < m) (h1 : ∀ u ∈ news, u.oneCell' = true) (hlen : xs.length + m ≤ 1099511627776)
    (h : ∀ v' w', Buf w0 w' e v' (xs ++ news) → w.grownBy w' v.ownBlock → wpList P ops Q rest (a.put o.dst v') w') :
    wpList P ops Q (o :: rest) a w := by
  obtain ⟨i, hi, hz0, hz1, hz2⟩ := info_parts he.info
  have hsm := he.small
  obtain ⟨g, rfl⟩ := hn.some_ h0
  have hm := hn.len
  refine wpList_append_lies w hgd s r t ho w0.heap.size e i z 1 bytes he.sl hi hz0 hz1 hz2 (by rw [he.one]; rfl) (by decide) v xs.length xs hs hb.own ⟨g, 0, none⟩ m c news hx (by omega) ?_ h1 h0 (by unfold maxLen; omega) ?_ hb.bel.size _ rfl ?_
  · intro j u hj
    have hjm : j < m := by
      rcases Nat.lt_or_ge j news.length with h' | h'
      · omega
      · rw [List.getElem?_eq_none h'] at hj; cases hj
    have := hn.cellAt j hjm
    have hadd : (⟨g, 0, none⟩ : Addr).add j = ⟨g, j, none⟩ := by unfold Addr.add; split <;> simp_all
    rw [hadd, this]; exact hj
  · have : (xs.length + m) * bytes ≤ 1099511627776 * 24 := Nat.mul_le_mul hlen hsm
    omega
  · intro g' cap w' hown hgrow hat hlt
    have hl : (xs ++ news).length = xs.length + m := by simp [hm]
    have hr : ∀ k, v.ownBlock = some k → w0.heap.size ≤ k := fun k hk => (hb.own.lt k hk).1
    exact h _ w' ⟨by rw [hl]; exact hown, hb.bel.grown hgrow hb.bel.size hr⟩ hgrow
def vS (l : List (List UInt8)) : List Value := (l.map toB).map Value.string
theorem vS_app (a b : List (List UInt8)) : vS (a ++ b) = vS a ++ vS b := by simp [vS]
theorem vS_len (a : List (List UInt8)) : (vS a).length = a.length := by simp [vS]
theorem vS_one (l : List (List UInt8)) : ∀ u ∈ vS l, u.oneCell' = true := by
  intro u hu; obtain ⟨_, _, rfl⟩ := List.mem_map.1 hu; rfl

set_option maxRecDepth 100000 in
set_option maxHeartbeats 1000000 in
theorem l3AllS : ∀ (f : Nat) (l : List UInt8) (up down : Nat), up ≤ down → f = up + down → f ≤ 12 → l.length + f ≤ 100 → ∀ w : World, Calls Try.prog 52 #[.string (toB l), .int .i64 (up : Int), .int .i64 (down : Int)] w (RetS ((allP f l up down).map toB) w) := by
  intro f
  induction f with
  | zero =>
    intro l up down hle hf _ _ w
    obtain rfl : up = 0 := by omega
    obtain rfl : down = 0 := by omega
    have hlit := Buf.lit (w0 := w) (e := 9) (Below.refl _ w) [.string (toB l)] (by simp [maxLen])
    clear hle hf
    go_enter Try.func52, Try.ntmps52
    go_wp2
    go_ret
    exact RetS.of hlit
  | succ f ih =>
    intro l up down hle hf hf12 hl w
    have hd0 : ((down : Int) == 0) = false := by rw [beq_eq_false_iff_ne]; omega
    have hlit := Buf.lit (w0 := w) (e := 9) (Below.refl _ w) [] (by decide)
    have hsz : (toB l).size ≤ 1000 := by rw [toB_size]; omega
    have HU := Lib.hid (toB_snoc l 117)
    have HD := Lib.hid (toB_snoc l 100)
    have n1 := allP_len f (l ++ [117]) (up - 1) down
    have n2 := allP_len f (l ++ [100]) up (down - 1)
    have h12 : 2 ^ f ≤ 4096 := (Nat.pow_le_pow_right (by decide) (show f ≤ 12 by omega) : 2 ^ f ≤ 2 ^ 12)
    have HV : Hid (allP (f + 1) l up down = (if 0 < up then allP f (l ++ [117]) (up - 1) down else []) ++ (if up < down then allP f (l ++ [100]) up (down - 1) else [])) := rfl
    by_cases hu : 0 < up
    · have HI1 := Lib.hid (ih (l ++ [117]) (up - 1) down (by omega) (by omega) (by omega) (by simp; omega))
      have p1 := allP_pos f (l ++ [117]) (up - 1) down (by omega) (by omega)
      rw [← HU.out, show ((up - 1 : Nat) : Int) = (up : Int) - 1 by omega] at HI1
      by_cases hd : up < down
      · have HI2 := Lib.hid (ih (l ++ [100]) up (down - 1) (by omega) (by omega) (by omega) (by simp; omega))
        have p2 := allP_pos f (l ++ [100]) up (down - 1) (by omega) (by omega)
        rw [← HD.out, show ((down - 1 : Nat) : Int) = (down : Int) - 1 by omega] at HI2
        have HV2 : Hid (allP (f + 1) l up down = allP f (l ++ [117]) (up - 1) down ++ allP f (l ++ [100]) up (down - 1)) := by show _ = _; rw [HV.out, if_pos hu, if_pos hd]
        obtain ⟨s, hs⟩ : ∃ s, s = toB l := ⟨_, rfl⟩
        rw [← hs] at HI1 HI2 hsz ⊢
        obtain ⟨l1, hl1⟩ : ∃ l1, l1 = allP f (l ++ [117]) (up - 1) down := ⟨_, rfl⟩
        obtain ⟨l2, hl2⟩ : ∃ l2, l2 = allP f (l ++ [100]) up (down - 1) := ⟨_, rfl⟩
        rw [← hl1] at HI1 HV2 n1 p1
        rw [← hl2] at HI2 HV2 n2 p2
        have m1 : (l1.map toB).length ≤ 4096 := by simp; omega
        have m2 : (l2.map toB).length ≤ 4096 := by simp; omega
        have m3 : 0 < (l1.map toB).length := by simpa using p1
        have m4 : 0 < (l2.map toB).length := by simpa using p2
        have q1 : (vS l1).length ≤ 4096 := by rw [vS_len]; omega
        clear ih hs hl1 hl2 HV h12 n1 n2 p1 p2
        go_enter Try.func52, Try.ntmps52
        go_wp2_with fail
        refine (HI1.out _).mono ?_
        rintro e w1 ⟨A1, c1, rfl, hB1⟩
        obtain ⟨M1, hM1⟩ : ∃ M, M = (l1.map toB).length := ⟨_, rfl⟩
        rw [← hM1] at hB1 m1 m3 ⊢
        clear hM1
        have hO1 := hlit.after hB1.bel
        go_wp2_with (at_builtin; refine buf_appendN elStr rfl _ _ rfl hO1 rfl hB1 rfl m3 (vS_one l1) (by rw [List.length_nil]; omega) ?_; intro v2 w2 hB2 _; rw [List.nil_append] at hB2)
        refine (HI2.out _).mono ?_
        rintro e w3 ⟨A3, c3, rfl, hB3⟩
        obtain ⟨M2, hM2⟩ : ∃ M, M = (l2.map toB).length := ⟨_, rfl⟩
        rw [← hM2] at hB3 m2 m4 ⊢
        clear hM2
        have hO3 := hB2.after hB3.bel
        go_wp2_with (at_builtin; refine buf_appendN elStr rfl _ _ rfl hO3 rfl hB3 rfl m4 (vS_one l2) (by have := q1; unfold vS at this; omega) ?_; intro v4 w4 hB4 _)
        have HZ : Hid (Buf w w4 9 v4 (((allP (f + 1) l up down).map toB).map Value.string)) := by
          show Buf _ _ _ _ _
          rw [HV2.out]
          simpa using hB4
        clear hB1 hB2 hB3 hB4 hO1 hO3
        go_ret
        exact RetS.of HZ.out
      · have HV2 : Hid (allP (f + 1) l up down = allP f (l ++ [117]) (up - 1) down) := by show _ = _; rw [HV.out, if_pos hu, if_neg hd]; simp
        obtain ⟨s, hs⟩ : ∃ s, s = toB l := ⟨_, rfl⟩
        rw [← hs] at HI1 hsz ⊢
        obtain ⟨l1, hl1⟩ : ∃ l1, l1 = allP f (l ++ [117]) (up - 1) down := ⟨_, rfl⟩
        rw [← hl1] at HI1 HV2 n1 p1
        have m1 : (l1.map toB).length ≤ 4096 := by simp; omega
        have m3 : 0 < (l1.map toB).length := by simpa using p1
        clear ih hs hl1 HV h12 n1 n2 p1
        go_enter Try.func52, Try.ntmps52
        go_wp2_with fail
        refine (HI1.out _).mono ?_
        rintro e w1 ⟨A1, c1, rfl, hB1⟩
        obtain ⟨M1, hM1⟩ : ∃ M, M = (l1.map toB).length := ⟨_, rfl⟩
        rw [← hM1] at hB1 m1 m3 ⊢
        clear hM1
        have hO1 := hlit.after hB1.bel
        go_wp2_with (at_builtin; refine buf_appendN elStr rfl _ _ rfl hO1 rfl hB1 rfl m3 (vS_one l1) (by rw [List.length_nil]; omega) ?_; intro v2 w2 hB2 _; rw [List.nil_append] at hB2)
        have HZ : Hid (Buf w w2 9 v2 (((allP (f + 1) l up down).map toB).map Value.string)) := by
          show Buf _ _ _ _ _
          rw [HV2.out]
          exact hB2
        clear hB1 hB2 hO1
        go_ret
        exact RetS.of HZ.out
    · have hd : up < down := by omega
      have HI1 := Lib.hid (ih (l ++ [100]) up (down - 1) (by omega) (by omega) (by omega) (by simp; omega))
      have p1 := allP_pos f (l ++ [100]) up (down - 1) (by omega) (by omega)
      rw [← HD.out, show ((down - 1 : Nat) : Int) = (down : Int) - 1 by omega] at HI1
      have HV2 : Hid (allP (f + 1) l up down = allP f (l ++ [100]) up (down - 1)) := by show _ = _; rw [HV.out, if_neg hu, if_pos hd]; simp
      obtain ⟨s, hs⟩ : ∃ s, s = toB l := ⟨_, rfl⟩
      rw [← hs] at HI1 hsz ⊢
      obtain ⟨l1, hl1⟩ : ∃ l1, l1 = allP f (l ++ [100]) up (down - 1) := ⟨_, rfl⟩
      rw [← hl1] at HI1 HV2 n2 p1
      have m1 : (l1.map toB).length ≤ 4096 := by simp; omega
      have m3 : 0 < (l1.map toB).length := by simpa using p1
      clear ih hs hl1 HV h12 n1 n2 p1
      go_enter Try.func52, Try.ntmps52
      go_wp2_with fail
      refine (HI1.out _).mono ?_
      rintro e w1 ⟨A1, c1, rfl, hB1⟩
      obtain ⟨M1, hM1⟩ : ∃ M, M = (l1.map toB).length := ⟨_, rfl⟩
      rw [← hM1] at hB1 m1 m3 ⊢
      clear hM1
      have hO1 := hlit.after hB1.bel
      go_wp2_with (at_builtin; refine buf_appendN elStr rfl _ _ rfl hO1 rfl hB1 rfl m3 (vS_one l1) (by rw [List.length_nil]; omega) ?_; intro v2 w2 hB2 _; rw [List.nil_append] at hB2)
      have HZ : Hid (Buf w w2 9 v2 (((allP (f + 1) l up down).map toB).map Value.string)) := by
        show Buf _ _ _ _ _
        rw [HV2.out]
        exact hB2
      clear hB1 hB2 hO1
      go_ret
      exact RetS.of HZ.out

/-- The two captured variables: out at block q1, more at block q2. -/
structure Cap (w0 w : World) (q1 q2 : Nat) (l : List (List UInt8)) : Prop where
  out : ∃ v, w.heap[q1]? = some (.cells #[v] 28 (0, 0)) ∧ Buf w0 w 9 v (vS l)
  more : w.heap[q2]? = some (.cells #[.func (.func 59) #[] #[.pointer (some ⟨q1, 0, none⟩), .pointer (some ⟨q2, 0, none⟩)]] 63 (0, 0))
  lo1 : w0.heap.size ≤ q1
  lo2 : w0.heap.size ≤ q2
theorem Buf.ne_block {w0 w : World} {e T : TypeId} {v : Value} {xs : List Value} {q : Nat} {cur : Array Value} {fr : Nat × Nat} (h : Buf w0 w e v xs) (hq : w.heap[q]? = some (.cells cur T fr)) (hne : T ≠ e) : v.ownBlock ≠ some q := by
  intro hv
  rcases h.own.2 with ⟨rfl, _⟩ | ⟨a, ca, cu, rfl, _, hh, _⟩
  · cases hv
  · simp only [Value.ownBlock, Option.some.injEq] at hv
    subst hv
    rw [hq] at hh
    injection hh with h1
    injection h1 with _ h2
    exact hne h2
theorem Cap.ne {w0 w : World} {q1 q2 : Nat} {l : List (List UInt8)} (h : Cap w0 w q1 q2 l) : q1 ≠ q2 := by
  intro he
  subst he
  obtain ⟨⟨v, h1, _⟩, h2, _, _⟩ := h
  rw [h1] at h2
  injection h2 with h3
  injection h3 with _ h4
  exact absurd h4 (by decide)
/-- One more path is appended to out and stored. -/
theorem Cap.put {w0 w w2 : World} {q1 q2 : Nat} {acc acc2 : List (List UInt8)} {v v2 : Value} (h : Cap w0 w q1 q2 acc) (hv : w.heap[q1]? = some (.cells #[v] 28 (0, 0))) (hB : Buf w0 w 9 v (vS acc)) (hB2 : Buf w0 w2 9 v2 (vS acc2)) (hgrow : w.grownBy w2 v.ownBlock) :
    w2.heap[q1]? = some (.cells #[v] 28 (0, 0)) ∧ Cap w0 (w2.setCell ⟨q1, 0, none⟩ v2) q1 q2 acc2 := by
  have hq1 : w2.heap[q1]? = some (.cells #[v] 28 (0, 0)) := by
    rw [hgrow.block q1 (lt_of_block hv) (fun e => hB.ne_block hv (by decide) e.symm)]; exact hv
  have hq2 := (hgrow.block q2 (lt_of_block h.more) (fun e => hB.ne_block h.more (by decide) e.symm)).trans h.more
  refine ⟨hq1, ⟨v2, one_setCell hq1, hB2.far h.lo1 (hB2.ne_block hq1 (by decide)) 0 v2⟩, ?_, h.lo1, h.lo2⟩
  rw [Below.heap_setCell _ _ _ _ (fun e => h.ne e.symm)]; exact hq2
set_option maxRecDepth 100000 in
set_option maxHeartbeats 1000000 in
theorem moreI (w0 : World) (q1 q2 : Nat) : ∀ (f : Nat) (l : List UInt8) (up down : Nat), up ≤ down → f = up + down → f ≤ 12 → l.length + f ≤ 100 → ∀ (w : World) (acc : List (List UInt8)), acc.length + 2 ^ (f + 1) ≤ 1000000 → Cap w0 w q1 q2 acc →
    Calls Try.prog 59 #[.string (toB l), .int .i64 (up : Int), .int .i64 (down : Int), .pointer (some ⟨q1, 0, none⟩), .pointer (some ⟨q2, 0, none⟩)] w fun e w' => e = .returned (.tuple #[]) ∧ Cap w0 w' q1 q2 (acc ++ allP f l up down) := by
  intro f
  induction f with
  | zero =>
    intro l up down hle hf _ _ w acc hacc hC
    obtain rfl : up = 0 := by omega
    obtain rfl : down = 0 := by omega
    obtain ⟨v, hq1, hB⟩ := hC.out
    have HC := Lib.hid hC
    have HQ1 := Lib.hid hq1
    have hc1 := cell_of_one hq1
    have hf1 := free_of_one hq1
    clear hle hf hC hq1
    obtain ⟨s, hs⟩ : ∃ s, s = toB l := ⟨_, rfl⟩
    have HS := Lib.hid hs
    rw [← hs]
    clear hs
    have hxl : (vS acc).length ≤ 1000000 := by rw [vS_len]; omega
    go_enter Try.func59, Try.ntmps59
    go_wp2_with (at_builtin; refine buf_append1 elStr rfl _ _ rfl hB rfl rfl rfl (by omega) ?_; intro v2 w2 hB2 hown hgrow; have hB3 : Buf w0 w2 9 v2 (vS (acc ++ allP 0 l 0 0)) := (by rw [vS_app]; rw [HS.out] at hB2; exact hB2); have hP := HC.out.put HQ1.out hB hB3 hgrow; obtain ⟨g2, N2, cap2, rfl, hN2⟩ := hB2.form' (by simp); have hc2 := cell_of_one hP.1; have hf2 := free_of_one hP.1; have HP := Lib.hid hP.2; clear hP hN2)
    ((try simp only [Exit.inBlock, Exit.then]); refine bodyPost_ret (results_none rfl _ _ _) rfl ?_)
    exact ⟨rfl, HP.out⟩
  | succ f ih =>
    intro l up down hle hf hf12 hl w acc hacc hC
    have hsz : (toB l).size ≤ 1000 := by rw [toB_size]; omega
    have HU := Lib.hid (toB_snoc l 117)
    have HD := Lib.hid (toB_snoc l 100)
    have n1 := allP_len f (l ++ [117]) (up - 1) down
    have HV : Hid (allP (f + 1) l up down = (if 0 < up then allP f (l ++ [117]) (up - 1) down else []) ++ (if up < down then allP f (l ++ [100]) up (down - 1) else [])) := rfl
    have hpw : 2 ^ (f + 1 + 1) = 4 * 2 ^ f := by rw [Nat.pow_succ, Nat.pow_succ]; omega
    have hpw1 : 2 ^ (f + 1) = 2 * 2 ^ f := by rw [Nat.pow_succ]; omega
    have hu12 : up ≤ 12 := by omega
    have hd12 : down ≤ 12 := by omega
    have hcm := cell_of_one hC.more
    have HC := Lib.hid hC
    clear hC
    by_cases hu : 0 < up
    · have hu0 : ((up : Int) == 0) = false := by rw [beq_eq_false_iff_ne]; omega
      have HI1 := Lib.hid (ih (l ++ [117]) (up - 1) down (by omega) (by omega) (by omega) (by simp; omega) w acc (by omega) HC.out)
      rw [← HU.out, show ((up - 1 : Nat) : Int) = (up : Int) - 1 by omega] at HI1
      by_cases hd : up < down
      · have HI2 := Lib.hid (fun w h => ih (l ++ [100]) up (down - 1) (by omega) (by omega) (by omega) (by simp; omega) w (acc ++ allP f (l ++ [117]) (up - 1) down) (by rw [List.length_append]; omega) h)
        rw [← HD.out, show ((down - 1 : Nat) : Int) = (down : Int) - 1 by omega] at HI2
        have HV2 : Hid (acc ++ allP (f + 1) l up down = acc ++ allP f (l ++ [117]) (up - 1) down ++ allP f (l ++ [100]) up (down - 1)) := by show _ = _; rw [HV.out, if_pos hu, if_pos hd, List.append_assoc]
        obtain ⟨s, hs⟩ : ∃ s, s = toB l := ⟨_, rfl⟩
        rw [← hs] at HI1 HI2 hsz ⊢
        clear ih hs hpw hpw1 n1 hf hacc
        go_enter Try.func59, Try.ntmps59
        go_wp2_with fail
        refine (HI1.out).mono ?_
        rintro e w1 ⟨rfl, hC1⟩
        have HC1 := Lib.hid hC1
        have hcm1 := cell_of_one hC1.more
        clear hC1
        go_wp2_with fail
        refine (HI2.out _ HC1.out).mono ?_
        rintro e w2 ⟨rfl, hC2⟩
        have HC2 := Lib.hid hC2
        clear hC2
        go_wp2_with fail
        go_end0
        exact ⟨rfl, by rw [HV2.out]; exact HC2.out⟩
      · have HV2 : Hid (acc ++ allP (f + 1) l up down = acc ++ allP f (l ++ [117]) (up - 1) down) := by show _ = _; rw [HV.out, if_pos hu, if_neg hd, List.append_nil]
        obtain ⟨s, hs⟩ : ∃ s, s = toB l := ⟨_, rfl⟩
        rw [← hs] at HI1 hsz ⊢
        clear ih hs hpw hpw1 n1 hf hacc
        go_enter Try.func59, Try.ntmps59
        go_wp2_with fail
        refine (HI1.out).mono ?_
        rintro e w1 ⟨rfl, hC1⟩
        have HC1 := Lib.hid hC1
        clear hC1
        go_wp2_with fail
        go_end0
        exact ⟨rfl, by rw [HV2.out]; exact HC1.out⟩
    · have hd : up < down := by omega
      obtain rfl : up = 0 := by omega
      have hd0 : ((down : Int) == 0) = false := by rw [beq_eq_false_iff_ne]; omega
      have HI2 := Lib.hid (ih (l ++ [100]) 0 (down - 1) (by omega) (by omega) (by omega) (by simp; omega) w acc (by omega) HC.out)
      rw [← HD.out, show ((down - 1 : Nat) : Int) = (down : Int) - 1 by omega] at HI2
      have HV2 : Hid (acc ++ allP (f + 1) l 0 down = acc ++ allP f (l ++ [100]) 0 (down - 1)) := by show _ = _; rw [HV.out, if_neg hu, if_pos hd, List.nil_append]
      obtain ⟨s, hs⟩ : ∃ s, s = toB l := ⟨_, rfl⟩
      rw [← hs] at HI2 hsz ⊢
      clear ih hs hpw hpw1 n1 hf hacc
      go_enter Try.func59, Try.ntmps59
      go_wp2_with fail
      refine (HI2.out).mono ?_
      rintro e w1 ⟨rfl, hC1⟩
      have HC1 := Lib.hid hC1
      clear hC1
      go_wp2_with fail
      go_end0
      exact ⟨rfl, by rw [HV2.out]; exact HC1.out⟩
/-- What PathsOf returns. -/
def pasV (n : Int) : List ByteArray := if 0 ≤ n ∧ n ≤ 6 then (allP (n.toNat + n.toNat) [] n.toNat n.toNat).map toB else []
theorem pasV_len (n : Int) : (pasV n).length ≤ 4096 := by
  unfold pasV
  split
  · have := allP_len (n.toNat + n.toNat) [] n.toNat n.toNat
    have h12 : 2 ^ (n.toNat + n.toNat) ≤ 4096 := (Nat.pow_le_pow_right (by decide) (show n.toNat + n.toNat ≤ 12 by omega) : 2 ^ (n.toNat + n.toNat) ≤ 2 ^ 12)
    simp; omega
  · simp
end Go.Proofs.Ytmjnafpjfodbdaa
