/-
  Small words and laws that all walks of this seat share: a buffer of the call's own (a slice that grows by append), what a slice reads as, and the ends of walks. No function of the program is named here.
-/
import Derived.WalkKit
import Derived.WalkSpells
import Derived.WalkLawsBesides
import Derived.ProofKit
import Derived.Lib.Hide
import Derived.Lib.Strings
import Derived.Maps.AppendAt
import Derived.Deep.AppendLies
import Derived.Deep.Draws
import Derived.Deep.QuietTactic
import Derived.BigQuiet
import Derived.Deep.DeepFit
import Derived.Laws.BytesString
import Derived.ShutString
import Derived.Laws.BytesArg
import Derived.Deep.RegionLaw
import Derived.Handy
namespace Go.Proofs.Ythbfockobnfomaa
open Go.RowKit

theorem ret_int {k : IntKind} {a b : Int} (h : a = b) : Ending.returned (.int k a) = .returned (.int k b) := by rw [h]
theorem ret_bool {a b : Bool} (h : a = b) : Ending.returned (.bool a) = .returned (.bool b) := by rw [h]
theorem ret_str {a b : ByteArray} (h : a = b) : Ending.returned (.string a) = .returned (.string b) := by rw [h]

/-- What was there before reads as before. -/
theorem bcell {W w1 : World} (hb : Below W.heap.size W w1) : (∀ b o, b < W.heap.size → w1.cell? ⟨b, o, none⟩ = W.cell? ⟨b, o, none⟩) ∧ (∀ b o, b < W.heap.size → w1.frozen? ⟨b, o, none⟩ = W.frozen? ⟨b, o, none⟩) :=
  ⟨fun b o h => hb.cell (p := ⟨b, o, none⟩) h, fun b o h => hb.frozen (p := ⟨b, o, none⟩) h⟩

theorem below_drewN {B : Nat} {a w : World} (h : Below B a w) (n : Nat) : Below B a (w.drewN n) := ⟨h.os, h.tape, h.output, h.size, h.block⟩

/-- Two calls in a row, each of which leaves alone what it found. -/
theorem below_then {w a b : World} (h : Below w.heap.size w a) (k : Below a.heap.size a b) : Below w.heap.size w b := h.trans (k.mono h.size)

/-- An element type of one cell. -/
structure Elem (P : Program) (t e : TypeId) (z : Value) (bytes : Nat) : Prop where
  sl : P.underlying t = some (.slice e)
  info : (P.info? e).map (fun i => (i.zero, i.size, i.bytes)) = some (some z, 1, bytes)
  one : z.cells = #[z]
  small : bytes ≤ 24

/-- A slice of the call's own that holds 'xs', and a world that is as 'w0' was but for what is new. -/
structure Buf (w0 w : World) (e : TypeId) (v : Value) (xs : List Value) : Prop where
  own : w.ownsRow w0.heap.size e 1 v xs.length xs
  bel : Below w0.heap.size w0 w

section
variable {w0 w w' : World} {e : TypeId} {v : Value} {xs : List Value}
theorem Buf.nil_ (h : Below w0.heap.size w0 w) : Buf w0 w e (.slice none 0 0) [] := ⟨World.ownsRow_nil _ _ _ _, h⟩
theorem Buf.drew (h : Buf w0 w e v xs) : Buf w0 w.drew e v xs := ⟨h.own.drew, h.bel.drew⟩
theorem Buf.drewN (h : Buf w0 w e v xs) (n : Nat) : Buf w0 (w.drewN n) e v xs := ⟨h.own, below_drewN h.bel n⟩
theorem Buf.alloc (h : Buf w0 w e v xs) (o : Obj) : Buf w0 (w.alloc o) e v xs := ⟨h.own.alloc o, h.bel.alloc h.bel.size o⟩
theorem Buf.after (h : Buf w0 w e v xs) (k : Below w.heap.size w w') : Buf w0 w' e v xs := by
  refine ⟨?_, below_then h.bel k⟩
  refine h.own.kept (row := none) ⟨k.os, k.tape, k.output, k.size, fun i hi _ => k.block i hi⟩ ?_
  cases v.ownBlock <;> simp
theorem Buf.grown (h : Buf w0 w e v xs) {row : Option Nat} (hg : w.grownBy w' row) (hr : ∀ k, row = some k → w0.heap.size ≤ k) : Below w0.heap.size w0 w' := h.bel.grown hg h.bel.size hr
theorem Buf.made (h : Below w0.heap.size w0 w) (cur : Array Value) (cap : Nat) (hm : cap ≤ maxLen) (hs : cur.size = cap) :
    Buf w0 (w.alloc (.cells cur e)) e (.slice (some ⟨w.heap.size, 0, none⟩) 0 cap) [] :=
  ⟨World.ownsRow_made w cur cap h.size hm (by simpa using hs), h.alloc h.size _⟩
end

/-- A new block that was laid whole ('[]T{..}'). -/
theorem Buf.lit {w0 w : World} {e : TypeId} (h : Below w0.heap.size w0 w) (xs : List Value) (hm : xs.length ≤ maxLen) :
    Buf w0 (w.alloc (.cells xs.toArray e)) e (.slice (some ⟨w.heap.size, 0, none⟩) xs.length xs.length) xs := by
  refine ⟨⟨by simp, .inr ⟨w.heap.size, xs.length, xs.toArray, rfl, h.size, heap_alloc_new w _, Nat.le_refl _, hm, by simp, by simp⟩⟩, h.alloc h.size _⟩

/-- append of one element: it lies in a block of its own, just laid. -/
theorem buf_append1 {P : Program} {w0 w : World} {ops : Array Oper} {rest : List Oper} {o : Oper} {a : Act} {Q : Exit → Act → World → Prop} {t e : TypeId} {z : Value} {bytes : Nat} (he : Elem P t e z bytes)
    {v : Value} {xs : List Value} {x : Value} {c : Nat} (hgd : o.guard = none) (s r : Operand)
    (ho : o.op = .call { callee := .builtin .append, args := #[s, r], argTypes := #[t, t] })
    (hb : Buf w0 w e v xs) (hs : a.eval s = v) (hx : a.eval r = .slice (some ⟨w.heap.size, 0, none⟩) 1 c) (h1 : x.oneCell' = true) (hn : xs.length ≤ 1099511627776)
    (h : ∀ v' w', Buf w0 w' e v' (xs ++ [x]) → (v'.ownBlock = v.ownBlock ∨ v'.ownBlock = some (w.heap.size + 1)) → w.grownBy w' v.ownBlock → wpList P ops Q rest (a.put o.dst v') w') :
    wpList P ops Q (o :: rest) a (w.alloc (.cells #[x] e)) := by
  obtain ⟨i, hi, hz0, hz1, hz2⟩ := info_parts he.info
  have hsm := he.small
  refine wpList_append_lies (w.alloc (.cells #[x] e)) hgd s r t ho w0.heap.size e i z 1 bytes he.sl hi hz0 hz1 hz2 (by rw [he.one]; rfl) (by decide) v xs.length xs hs (hb.own.alloc _) ⟨w.heap.size, 0, none⟩ 1 c [x] hx rfl (cell_one_new _ _ _)
    (by intro u hu; simp at hu; subst hu; exact h1) (by decide) (by unfold maxLen; omega) ?_ (by have := hb.bel.size; simp; omega) _ rfl ?_
  · have : (xs.length + 1) * bytes ≤ (1099511627776 + 1) * 24 := Nat.mul_le_mul (by omega) hsm
    omega
  · intro g cap w' hown hgrow hat hlt
    have hl : (xs ++ [x]).length = xs.length + 1 := by simp
    have hr : ∀ k, v.ownBlock = some k → w0.heap.size ≤ k := fun k hk => (hb.own.lt k hk).1
    have ha := hb.alloc (.cells #[x] e)
    refine h _ w' ⟨by rw [hl]; exact hown, ha.bel.grown hgrow ha.bel.size hr⟩ (hat.imp (fun h => by rw [h]; rfl) (fun h => by rw [h]; simp [Value.ownBlock])) ?_
    exact ⟨hgrow.os, hgrow.tape, hgrow.output, by have := hgrow.size; simp at this; omega, fun k hk hne => (hgrow.block k (by simp; omega) hne).trans (Below.heap_alloc w _ k hk)⟩

/-- make([]T, 0, n): nothing is held yet. -/
theorem buf_make0 {P : Program} {w0 w : World} {ops : Array Oper} {rest : List Oper} {o : Oper} {a : Act} {Q : Exit → Act → World → Prop} {t e : TypeId} {z : Value} {bytes : Nat} (he : Elem P t e z bytes)
    (hb : Below w0.heap.size w0 w) (n : Nat) (hn : n ≤ 1099511627776) (hg : o.guard = none) (l c : Operand) (hop : o.op = Op.makeSlice t l c)
    (kl kc : IntKind) (C : Int) (hl : a.eval l = .int kl 0) (hc : a.eval c = .int kc C) (hC : C = (n : Int))
    (h : ∀ w', Buf w0 w' e (.slice (some ⟨w.heap.size, 0, none⟩) 0 n) [] → w.grownBy w' none → wpList P ops Q rest (a.put o.dst (.slice (some ⟨w.heap.size, 0, none⟩) 0 n)) w') :
    wpList P ops Q (o :: rest) a w := by
  obtain ⟨i, hi, hz0, hz1, hz2⟩ := info_parts he.info
  have hsm := he.small
  have hbn : i.bytes * n ≤ 281474976710656 := by
    rw [hz2]; have : bytes * n ≤ 24 * 1099511627776 := Nat.mul_le_mul hsm hn
    omega
  exact wpList_make_own w hg l c t hop w0.heap.size e i z 1 he.sl hi hz0 hz1 kl kc C n hl hc hC hbn (by unfold maxLen; omega) hb.size
    fun w' ho hgr => h w' ⟨ho, hb.grown hgr hb.size (fun _ h => by cases h)⟩ hgr

/-- make([]T, n): n zeros. -/
theorem buf_make {P : Program} {w0 w : World} {ops : Array Oper} {rest : List Oper} {o : Oper} {a : Act} {Q : Exit → Act → World → Prop} {t e : TypeId} {z : Value} {bytes : Nat} (he : Elem P t e z bytes)
    (hb : Below w0.heap.size w0 w) (n : Nat) (hn : n ≤ 1099511627776) (hg : o.guard = none) (l c : Operand) (hop : o.op = Op.makeSlice t l c)
    (kl kc : IntKind) (L C : Int) (hl : a.eval l = .int kl L) (hc : a.eval c = .int kc C) (hL : L = (n : Int)) (hC : C = (n : Int))
    (h : ∀ w', Buf w0 w' e (.slice (some ⟨w.heap.size, 0, none⟩) n n) (List.replicate n z) → w.grownBy w' none → wpList P ops Q rest (a.put o.dst (.slice (some ⟨w.heap.size, 0, none⟩) n n)) w') :
    wpList P ops Q (o :: rest) a w := by
  obtain ⟨i, hi, hz0, hz1, hz2⟩ := info_parts he.info
  have hsm := he.small
  have hbn : i.bytes * n ≤ 281474976710656 := by
    rw [hz2]; have : bytes * n ≤ 24 * 1099511627776 := Nat.mul_le_mul hsm hn
    omega
  refine wpList_make_full w hg l c t hop w0.heap.size e i z 1 he.sl hi hz0 hz1 kl kc L C n hl hc hL hC hbn (by unfold maxLen; omega) hb.size
    fun w' ho hgr => h w' ⟨?_, hb.grown hgr hb.size (fun _ h => by cases h)⟩ hgr
  have e1 : (madeCells z.cells (n * 1)).toList = List.replicate n z := by
    rw [he.one, Nat.mul_one]
    apply List.ext_getElem
    · simp [madeCells]
    · intro i h1 h2
      simp [madeCells, Nat.mod_one]
  rw [e1] at ho
  simpa using ho

/-- append of what a block of its own holds, in whatever world: at a step of a region that draws its order. -/
theorem step_buf {P : Program} {w0 w : World} {ops : Array Oper} {o : Oper} {a : Act} {K : Act → World → Prop} {Q : Exit → Act → World → Prop} {E : Prop} {t e : TypeId} {z : Value} {bytes : Nat} (he : Elem P t e z bytes)
    {v : Value} {xs : List Value} (hgd : o.guard = none) (s r : Operand)
    (ho : o.op = .call { callee := .builtin .append, args := #[s, r], argTypes := #[t, t] })
    (hb : Buf w0 w e v xs) (hs : a.eval s = v) (B m c : Nat) (news : List Value) (fr : Nat × Nat) (hx : a.eval r = .slice (some ⟨B, 0, none⟩) m c) (hblk : w.heap[B]? = some (.cells news.toArray e fr)) (hm : news.length = m) (h0 : 0 < m)
    (h1 : ∀ u ∈ news, u.oneCell' = true) (hn : xs.length + m ≤ 1099511627776)
    (h : ∀ v' w', Buf w0 w' e v' (xs ++ news) → (v'.ownBlock = v.ownBlock ∨ v'.ownBlock = some w.heap.size) → w.grownBy w' v.ownBlock → K (a.put o.dst v') w') :
    if Region.wanted o (yielded ops a.tmps) = true then Oper.wp P o a w K Q else E := by
  obtain ⟨i, hi, hz0, hz1, hz2⟩ := info_parts he.info
  have hsm := he.small
  refine step_append_lies w hgd s r t ho w0.heap.size e i z 1 bytes he.sl hi hz0 hz1 hz2 (by rw [he.one]; rfl) (by decide) v xs.length xs hs hb.own ⟨B, 0, none⟩ m c news hx (by omega) (by simpa using World.news_of_block hblk)
    h1 h0 (by unfold maxLen; omega) ?_ hb.bel.size _ rfl ?_
  · have : (xs.length + m) * bytes ≤ 1099511627776 * 24 := Nat.mul_le_mul hn hsm
    omega
  · intro g cap w' hown hgrow hat hlt
    have hl : (xs ++ news).length = xs.length + m := by simp [hm]
    have hr : ∀ k, v.ownBlock = some k → w0.heap.size ≤ k := fun k hk => (hb.own.lt k hk).1
    exact h _ w' ⟨by rw [hl]; exact hown, hb.bel.grown hgrow hb.bel.size hr⟩ (hat.imp (fun h => by rw [h]; rfl) (fun h => by rw [h]; rfl)) hgrow

/-- string(out), out a buffer of bytes. -/
theorem buf_string {P : Program} {w0 w : World} {t e d : TypeId} {v : Value} {l : List Int} (ht : P.underlying t = some (.slice e)) (he : P.underlying e = some (.int .u8)) (hd : P.underlying d = some .string)
    (hb : Buf w0 w e v (l.map (Value.int .u8))) : (convert t d v).run P w = .ok (.string (strOfNums l)) w := by
  rcases hb.own.2 with ⟨rfl, h0⟩ | ⟨g, cap, cur, rfl, _, hg, _, _, _, htake⟩
  · have : l = [] := List.eq_nil_of_length_eq_zero (by simpa using h0)
    subst this
    exact run_convert_bytes_nil w t e ht he 0 0 d hd
  · refine run_convert_bytes_arg w t e ht he g 0 _ cap l (by simp) (fun i hi => ?_) d hd
    have hi' : i < l.length := by simpa using hi
    have hc := hb.own.cells (g := g) rfl i (.int .u8 (l.getD i 0)) (by simp [List.getD, hi'])
    have hadd : (⟨g, 0, none⟩ : Addr).add i = ⟨g, i, none⟩ := by unfold Addr.add; split <;> simp_all
    rw [hadd] at hc
    rw [Nat.zero_add]; exact hc

theorem ints_one (k : IntKind) (l : List Int) : ∀ u ∈ l.map (Value.int k), u.oneCell' = true := by
  intro u hu; obtain ⟨_, _, rfl⟩ := List.mem_map.1 hu; rfl

/-- The last byte read: one more letter of the beginning. -/
theorem take_snoc (s : ByteArray) (k : Nat) (h : k < s.size) : s.data.toList.take (k + 1) = s.data.toList.take k ++ [s[k]] := by
  rw [List.take_succ_eq_append_getElem (by simpa using h)]; rfl
theorem drop_cons (s : ByteArray) (k : Nat) (h : k < s.size) : s.data.toList.drop k = s[k] :: s.data.toList.drop (k + 1) := by
  rw [List.drop_eq_getElem_cons (by simpa using h)]; rfl
theorem drop_end (s : ByteArray) (k : Nat) (h : ¬ k < s.size) : s.data.toList.drop k = [] := List.drop_of_length_le (by simp; omega)
theorem take_end (s : ByteArray) (k : Nat) (h : ¬ k < s.size) : s.data.toList.take k = s.data.toList := List.take_of_length_le (by simp; omega)

section
variable {w0 w : World} {e : TypeId} {xs : List Value} {g n cap : Nat}
theorem Buf.len (h : Buf w0 w e (.slice (some ⟨g, 0, none⟩) n cap) xs) : n = xs.length := by
  rcases h.own.2 with ⟨h', _⟩ | ⟨g', cap', cur, h', _⟩
  · simp at h'
  · simp only [Value.slice.injEq] at h'
    exact h'.2.1
theorem Buf.lt (h : Buf w0 w e (.slice (some ⟨g, 0, none⟩) n cap) xs) : w0.heap.size ≤ g ∧ g < w.heap.size := h.own.lt g rfl
theorem Buf.cellAt (h : Buf w0 w e (.slice (some ⟨g, 0, none⟩) n cap) xs) (j : Nat) (hj : j < n) : w.cell? ⟨g, j, none⟩ = xs[j]? := by
  have hl := h.len
  subst hl
  exact h.own.cellAt j (by omega)
theorem Buf.frozenAt (h : Buf w0 w e (.slice (some ⟨g, 0, none⟩) n cap) xs) (j : Nat) : w.frozen? ⟨g, j, none⟩ = false := by
  have hl := h.len
  subst hl
  exact h.own.frozenAt j
theorem Buf.set (h : Buf w0 w e (.slice (some ⟨g, 0, none⟩) n cap) xs) (j : Nat) (u : Value) : Buf w0 (w.setCell ⟨g, j, none⟩ u) e (.slice (some ⟨g, 0, none⟩) n cap) (xs.set j u) := by
  have hl := h.len
  subst hl
  refine ⟨?_, h.bel.setCell (p := ⟨g, j, none⟩) h.lt.1 u⟩
  rw [List.length_set]
  exact (h.own.stored j u).1
theorem Buf.form' {v : Value} (h : Buf w0 w e v xs) (hn : 0 < xs.length) : ∃ g N cap, v = .slice (some ⟨g, 0, none⟩) N cap ∧ N = xs.length := by
  obtain ⟨g, cap, hv, _⟩ := h.own.form hn
  exact ⟨g, _, cap, hv, rfl⟩
/-- What a slice that holds something looks like. -/
theorem Buf.form {v : Value} (h : Buf w0 w e v xs) (hn : 0 < xs.length) : ∃ g cap, v = .slice (some ⟨g, 0, none⟩) xs.length cap := by
  obtain ⟨g, cap, hv, _⟩ := h.own.form hn
  exact ⟨g, cap, hv⟩
end

/-- string([]byte{x}). -/
theorem conv_one {P : Program} {t e d : TypeId} (ht : P.underlying t = some (.slice e)) (he : P.underlying e = some (.int .u8)) (hd : P.underlying d = some .string) (w : World) (x : Int) :
    (convert t d (.slice (some ⟨w.heap.size, 0, none⟩) 1 1)).run P (w.alloc (.cells #[.int .u8 x] e)) = .ok (.string (strOfNums [x])) (w.alloc (.cells #[.int .u8 x] e)) :=
  buf_string (w0 := w) (l := [x]) ht he hd (Buf.lit (Below.refl _ w) [.int .u8 x] (by simp [maxLen]))
theorem str_cons (x : Int) (l : List Int) : strOfNums [x] ++ strOfNums l = strOfNums (x :: l) := by
  apply ByteArray.ext
  simp [strOfNums, ByteArray.data_append]

theorem nat_byte (c : UInt8) (k : UInt8) (h : (c.toNat : Int) = k.toNat) : c = k := by
  apply UInt8.toNat_inj.1; omega
theorem byte_eq {c : UInt8} (k : UInt8) (n : Int) (h : c = k) (hn : (k.toNat : Int) = n := by rfl) : ((c.toNat : Int) == n) = true := by simp [h, hn]
theorem byte_ne {c : UInt8} (k : UInt8) (n : Int) (h : c ≠ k) (hn : (k.toNat : Int) = n := by rfl) : ((c.toNat : Int) == n) = false := by
  rw [beq_eq_false_iff_ne]; intro e; exact h (nat_byte c k (by rw [e, hn]))

theorem bytes_list (s : ByteArray) : s.toList = s.data.toList := Lib.toList_data s

theorem quiet_left {P : Program} {f : FuncId} {args : Array Value} {w : World} {n : Nat} {v : Value}
    (h : Calls P f args (w.drewN n) fun e w' => e = .returned v ∧ w.drewN n = w') : Calls P f args (w.drewN n) fun e w'' => e = .returned v ∧ ∃ m, w'' = w.drewN m :=
  h.mono fun _ _ ⟨he, hm⟩ => ⟨he, n, hm.symm⟩

/-- What a callee made is the caller's own, too. -/
theorem Buf.from_ {w0 w1 w' : World} {e : TypeId} {v : Value} {xs : List Value} (h : Buf w1 w' e v xs) (hb : Below w0.heap.size w0 w1) : Buf w0 w' e v xs := by
  refine ⟨⟨h.own.1, ?_⟩, below_then hb h.bel⟩
  rcases h.own.2 with hn | ⟨g, cap, cur, hv, hg, rest⟩
  · exact .inl hn
  · exact .inr ⟨g, cap, cur, hv, Nat.le_trans hb.size hg, rest⟩

section
variable {w0 w1 w : World} {e e' : TypeId} {v : Value} {xs ys : List Value}
/-- A store into another block. -/
theorem Buf.far (h : Buf w0 w e v xs) {g : Nat} (hg : w0.heap.size ≤ g) (hne : v.ownBlock ≠ some g) (j : Nat) (u : Value) : Buf w0 (w.setCell ⟨g, j, none⟩ u) e v xs := by
  refine ⟨h.own.kept (row := some g) ⟨rfl, rfl, rfl, by simp [World.setCell], fun k hk hk2 => Below.heap_setCell _ _ _ _ (fun e => hk2 (by rw [e]))⟩ ?_, h.bel.setCell (p := ⟨g, j, none⟩) hg u⟩
  exact .inr hne
/-- An append to another row. -/
theorem Buf.kept_ {w' : World} (h : Buf w0 w e v xs) {row : Option Nat} (hg : w.grownBy w' row) (hne : v.ownBlock = none ∨ v.ownBlock ≠ row) (hr : ∀ k, row = some k → w0.heap.size ≤ k) : Buf w0 w' e v xs :=
  ⟨h.own.kept hg hne, h.bel.grown hg h.bel.size hr⟩
/-- Rows of different element types lie in different blocks. -/
theorem Buf.ne_ {v' : Value} (h : Buf w0 w e v xs) (h' : Buf w1 w e' v' ys) (hne : e ≠ e') {g : Nat} (hg : v.ownBlock = some g) : v'.ownBlock ≠ some g := by
  intro hg'
  rcases h.own.2 with ⟨rfl, _⟩ | ⟨a, ca, cu, rfl, _, hh, _⟩
  · cases hg
  · rcases h'.own.2 with ⟨rfl, _⟩ | ⟨b, cb, cv, rfl, _, hh', _⟩
    · cases hg'
    · simp only [Value.ownBlock, Option.some.injEq] at hg hg'
      subst hg; subst hg'
      rw [hh] at hh'
      injection hh' with h1
      injection h1 with _ h2
      exact hne h2
end
theorem strOfNums_app (a b : List Int) : strOfNums a ++ strOfNums b = strOfNums (a ++ b) := by
  apply ByteArray.ext
  simp [strOfNums, ByteArray.data_append]
theorem to_below {P : Program} {f : FuncId} {args : Array Value} {w : World} {v : Value} (h : Calls P f args w fun e w' => e = .returned v ∧ w = w') : Calls P f args w fun e w' => e = .returned v ∧ Below w.heap.size w w' :=
  h.mono fun _ _ ⟨he, hw⟩ => ⟨he, hw ▸ Below.refl _ _⟩
end Go.Proofs.Ythbfockobnfomaa
