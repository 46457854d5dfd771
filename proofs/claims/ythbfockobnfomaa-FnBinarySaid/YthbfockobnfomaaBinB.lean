/-
  What both packages say of a text of a binary tree, joined.
-/
import Derived.Test.YthbfockobnfomaaBinF
import Derived.Test.YthbfockobnfomaaBinL
import Derived.Test.YthbfockobnfomaaBinM
import Derived.Test.YthbfockobnfomaaBinH
import Derived.Test.YthbfockobnfomaaBinV
namespace Go.Proofs.Ythbfockobnfomaa
open Go.RowKit
open Tr
/-- What both packages say of a text. -/
structure BinF (s : ByteArray) (is : Bool) (p : ByteArray) (l : List Int) (nn ht : Int) : Prop where
  pI : ∀ w, Calls Try.prog 27 #[.string s] w fun e w' => e = .returned (.tuple #[.string p, .bool is]) ∧ Below w.heap.size w w'
  pS : ∀ w, Calls Try.prog 26 #[.string s] w fun e w' => e = .returned (.tuple #[.string p, .bool is]) ∧ Below w.heap.size w w'
  lI : ∀ w, Calls Try.prog 35 #[.string s] w (RetI l w)
  lS : ∀ w, Calls Try.prog 34 #[.string s] w (RetI l w)
  ll : l.length ≤ 9
  bI : ∀ w, Calls Try.prog 17 #[.string s] w fun e w' => e = .returned (.bool is) ∧ Below w.heap.size w w'
  nI : ∀ w, Calls Try.prog 19 #[.string s] w fun e w' => e = .returned (.int .i64 nn) ∧ Below w.heap.size w w'
  nS : ∀ w, Calls Try.prog 18 #[.string s] w fun e w' => e = .returned (.int .i64 nn) ∧ Below w.heap.size w w'
  hI : ∀ w, Calls Try.prog 33 #[.string s] w fun e w' => e = .returned (.int .i64 ht) ∧ Below w.heap.size w w'
  hS : ∀ w, Calls Try.prog 32 #[.string s] w fun e w' => e = .returned (.int .i64 ht) ∧ Below w.heap.size w w'
/-- What the law asks of the text of a tree. -/
structure BinG (s p m : ByteArray) (l : List Int) (nn : Int) : Prop where
  bo : ∀ w, Calls Try.prog 31 #[.string p] w fun e w' => e = .returned (.tuple #[.string s, .bool true]) ∧ Below w.heap.size w w'
  bl : ∀ A c w, Rd .i64 w A l → Calls Try.prog 24 #[.slice A l.length c] w fun e w' => e = .returned (.tuple #[.string s, .bool true]) ∧ Below w.heap.size w w'
  mi : ∀ w, Calls Try.prog 29 #[.string s] w fun e w' => e = .returned (.tuple #[.string m, .bool true]) ∧ Below w.heap.size w w'
  mb : ∀ w, Calls Try.prog 29 #[.string m] w fun e w' => e = .returned (.tuple #[.string s, .bool true]) ∧ Below w.heap.size w w'
  len : (l.length : Int) = nn + 1
  n0 : 0 ≤ nn ∧ nn ≤ 8
  sum : pws l = 256
  small : ∀ x ∈ l, 0 ≤ x ∧ x ≤ 8
theorem bin_any (s : ByteArray) (hs : s.size ≤ 1048576) : ∃ is p l nn ht, BinF s is p l nn ht ∧ (is = false ∨ (is = true ∧ ∃ m, BinG s p m l nn)) := by
  by_cases h : Bin s
  · obtain ⟨t, rfl, hn⟩ := h
    refine ⟨_, _, t.lev 0, _, _, ⟨pobI_yes t hn, pobS_yes t hn, llI_yes t hn, llS_yes t hn, by rw [len_lev]; omega, isBinI_yes t hn, nodesI_yes t hn, nodesS_yes t hn, hoI_yes t hn, hoS_yes t hn⟩, .inr ⟨rfl, toB t.mir.txt, ⟨boI_yes t hn, fun A c w hr => bolI_yes A c t hn w hr, mbI_yes t hn, fun w => ?_, by rw [len_lev]; omega, ⟨by omega, by omega⟩, pws_256 t hn, fun x hx => ?_⟩⟩⟩
    · have := mbI_yes t.mir (by rw [nodes_mir]; exact hn) w
      rw [mir_mir] at this
      exact this
    · have h1 := lev_lo t 0 x hx
      have h2 := lev_hi t 0 x hx
      omega
  · exact ⟨_, _, [], _, _, ⟨pobI_no s hs h, pobS_no s hs h, llI_no s hs h, llS_no s hs h, by simp, isBinI_no s hs h, nodesI_no s hs h, nodesS_no s hs h, hoI_no s hs h, hoS_no s hs h⟩, .inl rfl⟩
theorem parts_any (s : ByteArray) (hs : s.size ≤ 1048576) : ∃ d e one, (∀ w, Calls Try.prog 21 #[.string s] w fun r w' => r = .returned (.tuple #[.string d, .string e, .bool one]) ∧ Below w.heap.size w w') ∧ (∀ w, Calls Try.prog 20 #[.string s] w fun r w' => r = .returned (.tuple #[.string d, .string e, .bool one]) ∧ Below w.heap.size w w') ∧ (one = false ∨ (one = true ∧ d.size ≤ 25 ∧ e.size ≤ 25 ∧ s = ⟨#[40]⟩ ++ d ++ e ++ ⟨#[41]⟩)) := by
  by_cases h : Bin s
  · obtain ⟨t, rfl, hn⟩ := h
    refine ⟨_, _, _, partsI_yes t hn, partsS_yes t hn, ?_⟩
    cases t with
    | lf => exact .inl rfl
    | nd a b =>
      simp only [nodes] at hn
      have ha := len_txt a
      have hb := len_txt b
      refine .inr ⟨rfl, ?_, ?_, ?_⟩
      · show (toB a.txt).size ≤ 25
        rw [toB_size]; omega
      · show (toB b.txt).size ≤ 25
        rw [toB_size]; omega
      · exact (toB_par' a.txt b.txt).symm
  · exact ⟨_, _, _, partsI_no s hs h, partsS_no s hs h, .inl rfl⟩
theorem binOf_any (s : ByteArray) (hs : s.size ≤ 1048576) : ∃ x g, (∀ w, Calls Try.prog 31 #[.string s] w fun r w' => r = .returned (.tuple #[.string x, .bool g]) ∧ Below w.heap.size w w') ∧ (∀ w, Calls Try.prog 30 #[.string s] w fun r w' => r = .returned (.tuple #[.string x, .bool g]) ∧ Below w.heap.size w w') := by
  by_cases h : dyck s.data.toList = true
  · obtain ⟨t, rfl, hn⟩ := path_of_dyck h
    exact ⟨_, _, boI_yes t hn, boS_yes t hn⟩
  · exact ⟨_, _, boI_no s hs h, boS_no s hs h⟩
theorem mirB_any (s : ByteArray) (hs : s.size ≤ 1048576) : ∃ x g, (∀ w, Calls Try.prog 29 #[.string s] w fun r w' => r = .returned (.tuple #[.string x, .bool g]) ∧ Below w.heap.size w w') ∧ (∀ w, Calls Try.prog 28 #[.string s] w fun r w' => r = .returned (.tuple #[.string x, .bool g]) ∧ Below w.heap.size w w') := by
  by_cases h : Bin s
  · obtain ⟨t, rfl, hn⟩ := h
    exact ⟨_, _, mbI_yes t hn, mbS_yes t hn⟩
  · exact ⟨_, _, mbI_no s hs h, mbS_no s hs h⟩
end Go.Proofs.Ythbfockobnfomaa
