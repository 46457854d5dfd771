/-
  What both packages say of a word, joined: of a word that is no path, of the empty path, and of a path that is cut at its first return.
-/
import Derived.Test.YtmjnafpjfodbdaaPathT
import Derived.Test.YtmjnafpjfodbdaaCutP
import Derived.Test.YtmjnafpjfodbdaaPrim
import Derived.Test.YtmjnafpjfodbdaaPoh
import Derived.Test.YtmjnafpjfodbdaaRev
namespace Go.Proofs.Ytmjnafpjfodbdaa
open Go.RowKit
open Tr
/-- Texts one behind the other. -/
def catB : List ByteArray → ByteArray
  | [] => ByteArray.empty
  | x :: r => x ++ catB r
theorem catB_app (l : List ByteArray) (x : ByteArray) : catB (l ++ [x]) = catB l ++ x := by
  induction l with
  | nil => simp [catB]
  | cons y r ih => simp only [List.cons_append, catB, ih, ByteArray.append_assoc]
theorem catB_toB (l : List (List UInt8)) : catB (l.map toB) = toB l.flatten := by
  induction l with
  | nil => rfl
  | cons x r ih => simp only [List.map_cons, catB, ih, List.flatten_cons, toB_app]
theorem catB_take (P : List ByteArray) (k : Nat) (h : k < P.length) : catB (P.take (k + 1)) = catB (P.take k) ++ P.getD k ByteArray.empty := by
  rw [List.take_succ_eq_append_getElem h, catB_app]
  simp [List.getD, h]
theorem catB_size (P : List ByteArray) (hs : ∀ i, (P.getD i ByteArray.empty).size ≤ 16) : ∀ k, k ≤ P.length → (catB (P.take k)).size ≤ 16 * k := by
  intro k
  induction k with
  | zero => intro _; simp [catB]
  | succ k ih =>
    intro h
    rw [catB_take P k (by omega), ByteArray.size_append]
    have := hs k
    have := ih (by omega)
    omega
structure WordF (s : ByteArray) (is one : Bool) (x a b v : ByteArray) (H : List Int) (P : List ByteArray) (S ar rt pk : Int) : Prop where
  hI : ∀ w, Calls Try.prog 18 #[.string s] w (RetI H w)
  hS : ∀ w, Calls Try.prog 20 #[.string s] w (RetI H w)
  hn : H.length ≤ 17
  pI : ∀ A c w, Rd .i64 w A H → Calls Try.prog 9 #[.slice A H.length c] w fun e w' => e = .returned (.tuple #[.string x, .bool is]) ∧ Below w.heap.size w w'
  dI : ∀ w, Calls Try.prog 22 #[.string s] w fun e w' => e = .returned (.bool is) ∧ Below w.heap.size w w'
  dS : ∀ w, Calls Try.prog 21 #[.string s] w fun e w' => e = .returned (.bool is) ∧ Below w.heap.size w w'
  sI : ∀ w, Calls Try.prog 23 #[.string s] w fun e w' => e = .returned (.int .i64 S) ∧ Below w.heap.size w w'
  sS : ∀ w, Calls Try.prog 24 #[.string s] w fun e w' => e = .returned (.int .i64 S) ∧ Below w.heap.size w w'
  fI : ∀ w, Calls Try.prog 25 #[.string s] w fun e w' => e = .returned (.tuple #[.string a, .string b, .bool one]) ∧ Below w.heap.size w w'
  fS : ∀ w, Calls Try.prog 26 #[.string s] w fun e w' => e = .returned (.tuple #[.string a, .string b, .bool one]) ∧ Below w.heap.size w w'
  prI : ∀ w, Calls Try.prog 12 #[.string s] w (RetS P w)
  prS : ∀ w, Calls Try.prog 11 #[.string s] w (RetS P w)
  pn : P.length ≤ 8
  pr1 : ∀ i, i < P.length → ∀ w, Calls Try.prog 29 #[.string (P.getD i ByteArray.empty)] w fun e w' => e = .returned (.int .i64 1) ∧ Below w.heap.size w w'
  psz : ∀ i, (P.getD i ByteArray.empty).size ≤ 16
  rI : ∀ w, Calls Try.prog 31 #[.string s] w fun e w' => e = .returned (.tuple #[.string v, .bool is]) ∧ Below w.heap.size w w'
  rS : ∀ w, Calls Try.prog 32 #[.string s] w fun e w' => e = .returned (.tuple #[.string v, .bool is]) ∧ Below w.heap.size w w'
  pkI : ∀ w, Calls Try.prog 33 #[.string s] w fun e w' => e = .returned (.int .i64 pk) ∧ Below w.heap.size w w'
  pkS : ∀ w, Calls Try.prog 37 #[.string s] w fun e w' => e = .returned (.int .i64 pk) ∧ Below w.heap.size w w'
  rtI : ∀ w, Calls Try.prog 29 #[.string s] w fun e w' => e = .returned (.int .i64 rt) ∧ Below w.heap.size w w'
  rtS : ∀ w, Calls Try.prog 38 #[.string s] w fun e w' => e = .returned (.int .i64 rt) ∧ Below w.heap.size w w'
  arI : ∀ w, Calls Try.prog 28 #[.string s] w fun e w' => e = .returned (.int .i64 ar) ∧ Below w.heap.size w w'
  arS : ∀ w, Calls Try.prog 39 #[.string s] w fun e w' => e = .returned (.int .i64 ar) ∧ Below w.heap.size w w'
theorem getD_nil_size (i : Nat) : (([] : List ByteArray).getD i ByteArray.empty).size ≤ 16 := by simp
theorem word_no (s : ByteArray) (hs : s.size ≤ 1000) (hd : dyck s.data.toList = false) : ∃ x a b v H P S ar rt pk, WordF s false false x a b v H P S ar rt pk := by
  have hs' : s.size ≤ 1048576 := by omega
  have e1 := htsV_no hd
  have e2 := prV_no hd
  refine ⟨ByteArray.empty, ByteArray.empty, ByteArray.empty, ByteArray.empty, [], [], _, _, _, _, ⟨fun w => e1 ▸ heightsOfI s w hs', fun w => e1 ▸ heightsOfS s w hs', by simp, fun A c w hr => ?_, fun w => hd ▸ isDyckI s w hs', fun w => hd ▸ to_below (isDyckS s w hs'), fun w => sizeOfI s w hs', fun w => sizeOfS s w hs', fun w => firstI_no s w hs' (.inl hd), fun w => firstS_no s w hs' (.inl hd),
    fun w => e2 ▸ primesI s w hs', fun w => e2 ▸ primesS s w hs', by simp, fun i h => absurd h (by simp), getD_nil_size, fun w => reverseI_no s w hs' hd, fun w => reverseS_no s w hs' hd, fun w => peaksI s w hs', fun w => peaksS s w hs', fun w => returnsI s w hs', fun w => returnsS s w hs', fun w => areaI s w hs', fun w => areaS s w hs'⟩⟩
  have := pohI A 0 c [] w rfl hr (by decide)
  rw [poh_nil] at this
  exact this
/-- What the law asks of a path. -/
structure PathG (s v : ByteArray) (P : List ByteArray) (ar rt pk : Int) : Prop where
  cat : catB P = s
  len : (P.length : Int) = rt
  pkV : ∀ w, Calls Try.prog 33 #[.string v] w fun e w' => e = .returned (.int .i64 pk) ∧ Below w.heap.size w w'
  arV : ∀ w, Calls Try.prog 28 #[.string v] w fun e w' => e = .returned (.int .i64 ar) ∧ Below w.heap.size w w'
/-- What the law asks of the parts of a path. -/
structure PartsG (s a b : ByteArray) (ar rt ara sza arb rb : Int) : Prop where
  jI : ∀ w, Calls Try.prog 27 #[.string a, .string b] w fun e w' => e = .returned (.tuple #[.string s, .bool true]) ∧ Below w.heap.size w w'
  arA : ∀ w, Calls Try.prog 28 #[.string a] w fun e w' => e = .returned (.int .i64 ara) ∧ Below w.heap.size w w'
  szA : ∀ w, Calls Try.prog 24 #[.string a] w fun e w' => e = .returned (.int .i64 sza) ∧ Below w.heap.size w w'
  arB : ∀ w, Calls Try.prog 28 #[.string b] w fun e w' => e = .returned (.int .i64 arb) ∧ Below w.heap.size w w'
  rtB : ∀ w, Calls Try.prog 29 #[.string b] w fun e w' => e = .returned (.int .i64 rb) ∧ Below w.heap.size w w'
  sum : ar = ara + sza + arb
  ret : rt = 1 + rb
  b1 : 0 ≤ ara ∧ ara ≤ 1000
  b2 : 0 ≤ sza ∧ sza ≤ 1000
  b3 : 0 ≤ arb ∧ arb ≤ 1000
  b4 : 0 ≤ rb ∧ rb ≤ 1000
theorem revB_toB (l : List UInt8) : strOfNums (revI l) = toB (rev l) := by
  unfold revI rev
  rw [← bNum_toB]
  congr 1
  unfold bNum
  rw [List.map_map]
  apply List.map_congr_left
  intro c _
  by_cases h : c = 117 <;> simp [h]
theorem join_toB (a b : List UInt8) : joinW (toB a) (toB b) = toB (117 :: (a ++ 100 :: b)) := by
  unfold joinW
  apply ByteArray.ext
  simp [toB, ByteArray.data_append]
theorem prV_tree' (t : Tr) (hn : t.nodes ≤ 8) : prV t.path = (primes t).map toB := by rw [prV_yes (path_dyck t hn), prGo_primes]
theorem prime_at (t : Tr) (hn : t.nodes ≤ 8) (i : Nat) (h : i < ((primes t).map toB).length) : ∃ a : Tr, ((primes t).map toB).getD i ByteArray.empty = toB (nd a lf).path ∧ (nd a lf).nodes ≤ 8 := by
  rw [List.getD_eq_getElem?_getD, List.getElem?_eq_getElem h, Option.getD_some, List.getElem_map]
  rw [List.length_map] at h
  obtain ⟨a, h1, h2⟩ := prime_tree t _ (List.getElem_mem h)
  exact ⟨a, by rw [h1], by simp only [nodes]; omega⟩
theorem prime_size (t : Tr) (hn : t.nodes ≤ 8) (i : Nat) : (((primes t).map toB).getD i ByteArray.empty).size ≤ 16 := by
  by_cases h : i < ((primes t).map toB).length
  · obtain ⟨a, h1, h2⟩ := prime_at t hn i h
    rw [h1, toB_size, len_path]; omega
  · rw [List.getD_eq_getElem?_getD, List.getElem?_eq_none (by omega)]; simp
theorem word_path (t : Tr) (hn : t.nodes ≤ 8) (one : Bool) (a b : ByteArray)
    (fI : ∀ w, Calls Try.prog 25 #[.string (toB t.path)] w fun e w' => e = .returned (.tuple #[.string a, .string b, .bool one]) ∧ Below w.heap.size w w')
    (fS : ∀ w, Calls Try.prog 26 #[.string (toB t.path)] w fun e w' => e = .returned (.tuple #[.string a, .string b, .bool one]) ∧ Below w.heap.size w w') :
    WordF (toB t.path) true one (toB t.path) a b (toB (rev t.path)) (hl t.path) ((primes t).map toB) t.nodes (areaT 0 t) (spine t) (pkT t) ∧ PathG (toB t.path) (toB (rev t.path)) ((primes t).map toB) (areaT 0 t) (spine t) (pkT t) := by
  have hd := path_dyck t hn
  have hlp := len_path t
  have hs : (toB t.path).size ≤ 1048576 := by rw [toB_size]; omega
  have hdl : dyck (toB t.path).data.toList = true := hd
  have e1 : htsV (toB t.path).data.toList = hl t.path := htsV_yes hd
  have e2 : prV (toB t.path).data.toList = (primes t).map toB := prV_tree' t hn
  have e3 : sizeV (toB t.path).data.toList = t.nodes := sizeV_tree t hn
  have e4 : peaksV (toB t.path).data.toList = pkT t := peaksV_tree t hn
  have e5 : retV (toB t.path).data.toList = spine t := retV_tree t hn
  have e6 : areaV (toB t.path).data.toList = areaT 0 t := areaV_tree t hn
  have e7 : strOfNums (revI (toB t.path).data.toList) = toB (rev t.path) := revB_toB t.path
  refine ⟨⟨fun w => e1 ▸ heightsOfI _ w hs, fun w => e1 ▸ heightsOfS _ w hs, by rw [len_hl]; omega, fun A c w hr => ?_, fun w => hdl ▸ isDyckI _ w hs, fun w => hdl ▸ to_below (isDyckS _ w hs), fun w => e3 ▸ sizeOfI _ w hs, fun w => e3 ▸ sizeOfS _ w hs, fI, fS,
    fun w => e2 ▸ primesI _ w hs, fun w => e2 ▸ primesS _ w hs, by rw [List.length_map]; have := len_primes t; omega, fun i h w => ?_, prime_size t hn, fun w => e7 ▸ reverseI_yes _ w hs hdl, fun w => e7 ▸ reverseS_yes _ w hs hdl, fun w => e4 ▸ peaksI _ w hs, fun w => e4 ▸ peaksS _ w hs, fun w => e5 ▸ returnsI _ w hs, fun w => e5 ▸ returnsS _ w hs, fun w => e6 ▸ areaI _ w hs, fun w => e6 ▸ areaS _ w hs⟩, ⟨?_, ?_, fun w => ?_, fun w => ?_⟩⟩
  · have := pohI A _ c (hl t.path) w rfl hr (by rw [len_hl]; omega)
    rw [poh_hts hd] at this
    exact this
  · obtain ⟨p, h1, h2⟩ := prime_at t hn i h
    rw [h1]
    exact retsT (nd p lf) h2 w
  · rw [catB_toB, primes_flat]
  · rw [List.length_map, len_primes_spine]
  · rw [← rv_path, ← rv_pk]; exact peaksT (rv t) (by rw [rv_nodes]; exact hn) w
  · rw [← rv_path, ← rv_area]; exact areasT (rv t) (by rw [rv_nodes]; exact hn) w
theorem word_yes (t : Tr) (hn : t.nodes ≤ 8) : ∃ one a b v H P S ar rt pk, WordF (toB t.path) true one (toB t.path) a b v H P S ar rt pk ∧ PathG (toB t.path) v P ar rt pk ∧ (one = false ∨ (one = true ∧ ∃ ara sza arb rb, PartsG (toB t.path) a b ar rt ara sza arb rb)) := by
  have hlp := len_path t
  have hs : (toB t.path).size ≤ 1048576 := by rw [toB_size]; omega
  cases t with
  | lf =>
    have h := word_path lf hn false _ _ (fun w => firstI_no _ w hs (.inr rfl)) (fun w => firstS_no _ w hs (.inr rfl))
    exact ⟨_, _, _, _, _, _, _, _, _, _, h.1, h.2, .inl rfl⟩
  | nd a b =>
    have hn' := hn
    simp only [nodes] at hn'
    have hd := path_dyck (nd a b) hn
    have ef : firstR (toB (nd a b).path) (a.path.length + 1) = .tuple #[.string (toB a.path), .string (toB b.path), .bool true] := by
      unfold firstR
      rw [nd_left, nd_back a b _ (toB_size _)]
    have h := word_path (nd a b) hn true _ _ (fun w => ef ▸ firstI_yes _ _ w hs hd (cut_nd a b)) (fun w => ef ▸ firstS_yes _ _ w hs hd (cut_nd a b))
    have sa : (toB a.path).size ≤ 1048576 := by rw [toB_size, len_path]; omega
    have sb : (toB b.path).size ≤ 1048576 := by rw [toB_size, len_path]; omega
    have da := path_dyck a (by omega)
    have db := path_dyck b (by omega)
    have ej : joinW (toB a.path) (toB b.path) = toB (nd a b).path := join_toB _ _
    have ba := area_small a (by omega)
    have bb := area_small b (by omega)
    have hup := area_up a 0
    have hsp : spine b ≤ 8 := by have := len_primes b; rw [len_primes_spine] at this; omega
    refine ⟨_, _, _, _, _, _, _, _, _, _, h.1, h.2, .inr ⟨rfl, areaT 0 a, a.nodes, areaT 0 b, spine b, ⟨fun w => ?_, areasT a (by omega), sizeT a (by omega), areasT b (by omega), retsT b (by omega), ?_, ?_, ⟨by omega, by omega⟩, ⟨by omega, by omega⟩, ⟨by omega, by omega⟩, ⟨by omega, by omega⟩⟩⟩⟩
    · have := joinI_yes (toB a.path) (toB b.path) w sa sb da db (by rw [ej]; exact hd)
      rw [ej] at this
      exact this
    · simp only [areaT]; omega
    · simp only [spine]; omega
/-- What the reference says of any two texts, the program says, too. -/
theorem join_any (a b : ByteArray) (h1 : a.size ≤ 1048576) (h2 : b.size ≤ 1048576) : ∃ (x : ByteArray) (g : Bool), (∀ w, Calls Try.prog 27 #[.string a, .string b] w fun e w' => e = .returned (.tuple #[.string x, .bool g]) ∧ Below w.heap.size w w') ∧ (∀ w, Calls Try.prog 36 #[.string a, .string b] w fun e w' => e = .returned (.tuple #[.string x, .bool g]) ∧ Below w.heap.size w w') := by
  cases hd : (dyck a.data.toList && (dyck b.data.toList && dyck (joinW a b).data.toList)) with
  | false => exact ⟨_, _, fun w => joinI_no a b w h1 h2 hd, fun w => joinS_no a b w h1 h2 hd⟩
  | true =>
    simp only [Bool.and_eq_true] at hd
    exact ⟨_, _, fun w => joinI_yes a b w h1 h2 hd.1 hd.2.1 hd.2.2, fun w => joinS_yes a b w h1 h2 hd.1 hd.2.1 hd.2.2⟩
end Go.Proofs.Ytmjnafpjfodbdaa
