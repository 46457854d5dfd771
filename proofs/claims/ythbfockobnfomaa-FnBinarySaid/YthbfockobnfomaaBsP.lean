/-
  Plain lists of bytes as strings: slices, sums, what []byte holds.
-/
import Derived.Test.YthbfockobnfomaaKit
namespace Go.Proofs.Ythbfockobnfomaa
open Go.RowKit
/-- The bytes of a list. -/
def toB (l : List UInt8) : ByteArray := ⟨⟨l⟩⟩
theorem toB_size (l : List UInt8) : (toB l).size = l.length := by show l.toArray.size = _; simp
theorem toB_list (l : List UInt8) : (toB l).data.toList = l := rfl
theorem toB_of (s : ByteArray) : toB s.data.toList = s := by
  apply ByteArray.ext
  simp [toB]
theorem toB_inj {a b : List UInt8} (h : toB a = toB b) : a = b := by
  have := congrArg (fun s : ByteArray => s.data.toList) h
  exact this
theorem extract_toB (s : ByteArray) (i j : Nat) : s.extract i j = toB ((s.data.toList.drop i).take (j - i)) := by
  apply ByteArray.ext
  apply Array.toList_inj.mp
  show (s.extract i j).data.toList = _
  rw [ByteArray.data_extract, Array.toList_extract]
  rfl
theorem toB_app (a b : List UInt8) : toB a ++ toB b = toB (a ++ b) := by
  apply ByteArray.ext
  simp [toB, ByteArray.data_append]
theorem toB_isEmpty (l : List UInt8) : (toB l).data.toList.isEmpty = l.isEmpty ∧ (toB l).toList.isEmpty = l.isEmpty := ⟨rfl, by rw [bytes_list]; rfl⟩
def bNum (l : List UInt8) : List Int := l.map fun c : UInt8 => (c.toNat : Int)
theorem bNum_str (l : List UInt8) : strOfNums (bNum l) = ⟨⟨l⟩⟩ := by
  apply ByteArray.ext
  apply Array.toList_inj.mp
  simp only [strOfNums, bNum, List.map_map]
  conv => rhs; rw [← List.map_id l]
  apply List.map_congr_left
  intro x _
  simp
theorem bNum_len (l : List UInt8) : (bNum l).length = l.length := by simp [bNum]
theorem bNum_toB (l : List UInt8) : strOfNums (bNum l) = toB l := bNum_str l
theorem bNum_snoc (l : List UInt8) (c : UInt8) : (bNum (l ++ [c])).map (Value.int .u8) = (bNum l).map (Value.int .u8) ++ [.int .u8 (c.toNat : Int)] := by simp [bNum]
theorem toB_snoc (pre : List UInt8) (c : UInt8) : toB pre ++ ⟨#[c]⟩ = toB (pre ++ [c]) := by
  apply ByteArray.ext
  simp [toB, ByteArray.data_append]
end Go.Proofs.Ythbfockobnfomaa
