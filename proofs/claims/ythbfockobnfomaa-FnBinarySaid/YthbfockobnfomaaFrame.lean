/-
  What the last step of every law of this seat needs: facts on the program as a whole, read off the head of its text.
-/
import Derived.Test.YthbfockobnfomaaRows
import Derived.Test.YthbfockobnfomaaKit
import Derived.OpenShut
import Derived.ShutString
import Derived.ChangeOld
namespace Go.Proofs.Ythbfockobnfomaa
open Go.ChangeShapes Go.WideShapes Go.ChangeAt Go.RowKit
theorem own : ownKnob Try.prog.godebug = none := by kernel_rfl
theorem laidOut : laidOutB Try.prog = true := by kernel_rfl
theorem band {a b : Bool} (ha : a = true) (hb : b = true) : (a && b) = true := by rw [ha, hb]; rfl

theorem words_space (r : List Char) : wordsSigns (Char.ofNat 32 :: r) = [] :: wordsSigns r := rfl
theorem words_cons (c : Char) (r w : List Char) (ws : List (List Char)) (hc : c ≠ Char.ofNat 32) (h : wordsSigns r = w :: ws) : wordsSigns (c :: r) = (c :: w) :: ws := by
  rw [wordsSigns.eq_3 _ _ (fun e => hc e), h]
theorem words_word (w r : List Char) (h : ∀ c ∈ w, c ≠ Char.ofNat 32) : wordsSigns (w ++ Char.ofNat 32 :: r) = w :: wordsSigns r := by
  induction w with
  | nil => exact words_space r
  | cons c w ih => exact words_cons c _ w _ (h c (by simp)) (ih fun x hx => h x (by simp [hx]))
theorem strip_cut (rest : List (List Char)) : stripLifts liftWords ("cut".toList :: rest) = ([], "cut".toList :: rest) := by rfl
theorem sum_no_space {s : List Char} (h : isSumSigns s = true) : ∀ c ∈ s, c ≠ Char.ofNat 32 := by
  intro c hc e
  subst e
  simp only [isSumSigns, Bool.and_eq_true, List.all_eq_true] at h
  have := h.2 _ hc
  revert this
  decide
theorem split3 (L : List Char) : L = L.take 8 ++ ((L.drop 8).take 64 ++ ((L.drop 72).take 5 ++ L.drop 77)) := by
  have e1 : L.drop 72 = (L.drop 8).drop 64 := by rw [List.drop_drop]
  have e2 : L.drop 77 = (L.drop 72).drop 5 := by rw [List.drop_drop]
  rw [e2, List.take_append_drop, e1, List.take_append_drop, List.take_append_drop]
theorem behind_main (S R : List Char) (h : isSumSigns S = true) : behindMainWord (wordsSigns ("harness ".toList ++ (S ++ (" cut ".toList ++ R)))) = "cut".toList :: wordsSigns R := by
  have a1 : "harness ".toList ++ (S ++ (" cut ".toList ++ R)) = "harness".toList ++ Char.ofNat 32 :: (S ++ Char.ofNat 32 :: ("cut".toList ++ Char.ofNat 32 :: R)) := rfl
  rw [a1, words_word _ _ (by decide), words_word _ _ (sum_no_space h), words_word _ _ (by decide)]
  generalize wordsSigns R = ws
  have e : behindMainWord ("harness".toList :: S :: "cut".toList :: ws) = if (("harness".toList == "harness".toList || "harness".toList == "ownmain".toList) && isSumSigns S) = true then "cut".toList :: ws else "harness".toList :: S :: "cut".toList :: ws := rfl
  rw [e, h]
  exact if_pos rfl
set_option maxRecDepth 100000 in
theorem head_facts : ∃ cs, Try.prog.initOrder = String.ofList cs ∧ (cs.take 8 == "harness ".toList) = true ∧ isSumSigns ((cs.drop 8).take 64) = true ∧ ((cs.drop 72).take 5 == " cut ".toList) = true :=
  ⟨_, rfl, by as_aux_lemma => kernel_rfl, by as_aux_lemma => kernel_rfl, by as_aux_lemma => kernel_rfl⟩
theorem behind : ∃ rest, behindMainWord (wordsSigns Try.prog.initOrder.toList) = "cut".toList :: rest := by
  obtain ⟨cs, he, h1, h2, h3⟩ := head_facts
  have hs := split3 cs
  rw [beq_iff_eq.1 h1, beq_iff_eq.1 h3] at hs
  refine ⟨wordsSigns (cs.drop 77), ?_⟩
  rw [he, String.toList_ofList]
  conv => lhs; rw [hs]
  exact behind_main _ _ h2
theorem lays_not : Try.prog.laysLater = false := by kernel_rfl
theorem reflect_not : Try.prog.bearsReflect = false := by kernel_rfl
theorem door_fits : Try.prog.doorFits [] = true := by kernel_rfl
theorem mayEnter_of {P : Program} {rest : List (List Char)} (he : behindMainWord (wordsSigns P.initOrder.toList) = "cut".toList :: rest) (hl : P.laysLater = false) (hr : P.bearsReflect = false) (hd : P.doorFits [] = true) : P.mayEnter = true := by
  unfold Program.mayEnter
  rw [he]
  simp only [strip_cut, hl, hr, hd]
  rfl
theorem lifts_of {P : Program} {rest : List (List Char)} (he : behindMainWord (wordsSigns P.initOrder.toList) = "cut".toList :: rest) : P.liftsFinal = false := by
  unfold Program.liftsFinal Program.headLifts
  rw [he]
  simp only [strip_cut]
  rfl
theorem make_of {P : Program} {rest : List (List Char)} (he : behindMainWord (wordsSigns P.initOrder.toList) = "cut".toList :: rest) : P.make = some .cut := by
  unfold Program.make
  rw [he]
  rfl
theorem enters : Try.prog.mayEnter = true := behind.elim fun _ he => mayEnter_of he lays_not reflect_not door_fits
theorem lifts_not : Try.prog.liftsFinal = false := behind.elim fun _ he => lifts_of he
theorem made_cut : Try.prog.make = some .cut := behind.elim fun _ he => make_of he
theorem lifted_fact (c : OpenClaim) (h : c.lifted = false) : (c.lifted == Try.prog.liftsFinal) = true := by rw [lifts_not, h]; rfl
theorem make_fact (c : OpenClaim) (h : c.make = .cut) : (Try.prog.make == some c.make) = true := by rw [made_cut, h]; rfl
end Go.Proofs.Ythbfockobnfomaa
