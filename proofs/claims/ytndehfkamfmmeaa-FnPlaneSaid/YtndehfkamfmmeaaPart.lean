/-
  impl.partners and spec.l4Partner, walked.
-/
import Derived.Test.YtndehfkamfmmeaaDyck
import Derived.Test.YtndehfkamfmmeaaInts
import Derived.Test.YtndehfkamfmmeaaPartP
namespace Go.Proofs.Ytndehfkamfmmeaa
open Go.RowKit
def vi (l : List Nat) : List Value := l.map fun n : Nat => Value.int .i64 (n : Int)
theorem vi_len (l : List Nat) : (vi l).length = l.length := by simp [vi]
theorem vi_get (l : List Nat) (i x : Nat) (h : l[i]? = some x) : (vi l)[i]? = some (.int .i64 (x : Int)) := by simp [vi, h]
theorem vi_app (a : List Nat) (x : Nat) : vi (a ++ [x]) = vi a ++ [.int .i64 (x : Int)] := by simp [vi]
theorem vi_set (a : List Nat) (i x : Nat) : vi (a.set i x) = (vi a).set i (.int .i64 (x : Int)) := by simp [vi, List.map_set]
theorem vi_take (a : List Nat) (n : Nat) : vi (a.take n) = (vi a).take n := by simp [vi, List.map_take]
theorem vi_zeros (n : Nat) : vi (List.replicate n 0) = List.replicate n (.int .i64 0) := by simp [vi]
theorem Buf.shrink {w0 w : World} {e : TypeId} {g n cap : Nat} {xs : List Value} (h : Buf w0 w e (.slice (some ⟨g, 0, none⟩) n cap) xs) (m : Nat) (hm : m ≤ n) : Buf w0 w e (.slice (some ⟨g, 0, none⟩) m cap) (xs.take m) := by
  have hl := h.len
  subst hl
  refine ⟨?_, h.bel⟩
  have hlen : (xs.take m).length = m := by rw [List.length_take]; omega
  rw [hlen]
  rcases h.own.2 with ⟨h', _⟩ | ⟨g', cap', cur, hv, hb, hg, hn, hc, hs, ht⟩
  · simp at h'
  · simp only [Value.slice.injEq] at hv
    obtain ⟨h1, _, h3⟩ := hv
    subst h3
    refine ⟨by rw [hlen]; omega, .inr ⟨g, cap, cur, rfl, ?_, ?_, by omega, hc, hs, ?_⟩⟩
    · have : g = g' := by simpa using h1
      rw [this]; exact hb
    · have : g = g' := by simpa using h1
      rw [this]; exact hg
    · rw [← ht, List.take_take]; congr 1; omega
theorem getD_at (s : ByteArray) (j : Nat) (h : j < s.size) : s.data.toList.getD j 0 = s[j] := by
  have := drop_cons s j h
  have e : s.data.toList[j]? = some s[j] := by
    have := congrArg List.head? this
    simpa [List.head?_drop] using this
  simp [List.getD, e]


end Go.Proofs.Ytndehfkamfmmeaa
