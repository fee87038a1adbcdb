/- The bytes of an echo message and of its reply. No condition on the program. -/
import Derived.Test.YthepnjbefngooaaHEcho
namespace Go.Proofs.Ythepnjbefngooaa.H
open Go Go.RowKit Go.Proofs.YthepnjbefngooaaW.PrintWords Go.Proofs.YthepnjbefngooaaW.PrintLast Go.Proofs.YthepnjbefngooaaW.PrintMore Go.Proofs.Ythepnjbefngooaa.Plain

theorem eq_of_list {a b : ByteArray} (h : a.data.toList = b.data.toList) : a = b := ByteArray.ext (Array.ext' h)
theorem ext_list (s : ByteArray) (a b : Nat) : (s.extract a b).data.toList = (s.data.toList.drop a).take (b - a) := by simp

theorem echo_list (b4 b5 b6 b7 : Int) (s : ByteArray) : (echoHead b4 b5 b6 b7 ++ s).data.toList = [8, 0, 0, 0, UInt8.ofNat b4.toNat, UInt8.ofNat b5.toNat, UInt8.ofNat b6.toNat, UInt8.ofNat b7.toNat] ++ s.data.toList := by
  rw [data_append]
  simp [echoHead, strOfNums]
theorem echo_size (b4 b5 b6 b7 : Int) (s : ByteArray) : (echoHead b4 b5 b6 b7 ++ s).size = 8 + s.size := by
  rw [← size_list, echo_list, List.length_append, size_list]
  rfl
theorem echo_first (b4 b5 b6 b7 : Int) (s : ByteArray) : ((echoHead b4 b5 b6 b7 ++ s).extract 0 4).toList = [8, 0, 0, 0] := by
  rw [ByteArray.toList_eq, ext_list, echo_list]
  rfl

def ansBody (b4 b5 b6 b7 : Int) (s : ByteArray) : ByteArray := strOfNums [9] ++ (echoHead b4 b5 b6 b7 ++ s).extract 1 (echoHead b4 b5 b6 b7 ++ s).size
theorem ans_list (b4 b5 b6 b7 : Int) (s : ByteArray) : (ansBody b4 b5 b6 b7 s).data.toList = [9, 0, 0, 0, UInt8.ofNat b4.toNat, UInt8.ofNat b5.toNat, UInt8.ofNat b6.toNat, UInt8.ofNat b7.toNat] ++ s.data.toList := by
  unfold ansBody
  rw [data_append, ext_list, echo_list, echo_size, List.take_of_length_le]
  · simp [strOfNums]
  · rw [List.length_drop, List.length_append, size_list]
    simp only [List.length_cons, List.length_nil]
    omega
theorem ans_size (b4 b5 b6 b7 : Int) (s : ByteArray) : (ansBody b4 b5 b6 b7 s).size = 8 + s.size := by
  rw [← size_list, ans_list, List.length_append, size_list]
  rfl
theorem ans_first (b4 b5 b6 b7 : Int) (s : ByteArray) : ((ansBody b4 b5 b6 b7 s).extract 0 4).toList = [9, 0, 0, 0] := by
  rw [ByteArray.toList_eq, ext_list, ans_list]
  rfl
theorem u8_back {b : Int} (h0 : 0 ≤ b) (h1 : b ≤ 255) : ((UInt8.ofNat b.toNat).toNat : Int) = b := by
  simp
  omega
theorem ans_b4 (b4 b5 b6 b7 : Int) (s : ByteArray) (h0 : 0 ≤ b4) (h1 : b4 ≤ 255) : bt (ansBody b4 b5 b6 b7 s) (4 : Nat) = b4 := by
  rw [bt_list, ans_list]
  exact u8_back h0 h1
theorem ans_b5 (b4 b5 b6 b7 : Int) (s : ByteArray) (h0 : 0 ≤ b5) (h1 : b5 ≤ 255) : bt (ansBody b4 b5 b6 b7 s) (5 : Nat) = b5 := by
  rw [bt_list, ans_list]
  exact u8_back h0 h1
theorem ans_b6 (b4 b5 b6 b7 : Int) (s : ByteArray) (h0 : 0 ≤ b6) (h1 : b6 ≤ 255) : bt (ansBody b4 b5 b6 b7 s) (6 : Nat) = b6 := by
  rw [bt_list, ans_list]
  exact u8_back h0 h1
theorem ans_b7 (b4 b5 b6 b7 : Int) (s : ByteArray) (h0 : 0 ≤ b7) (h1 : b7 ≤ 255) : bt (ansBody b4 b5 b6 b7 s) (7 : Nat) = b7 := by
  rw [bt_list, ans_list]
  exact u8_back h0 h1
theorem ans_rest (b4 b5 b6 b7 : Int) (s : ByteArray) : (ansBody b4 b5 b6 b7 s).extract 8 (min (ansBody b4 b5 b6 b7 s).size 16) = beg s 8 := by
  apply eq_of_list
  unfold beg
  rw [ext_list, ans_list, ans_size, ext_list]
  show List.take _ s.data.toList = _
  rw [List.drop_zero]
  congr 1
  omega
theorem or_plain {x y : Int} (h0 : 0 ≤ x) (h1 : x ≤ 255) (h2 : 0 ≤ y) (h3 : y ≤ 255) : bits .or .i64 (x * 256) y = x * 256 + y := by
  have h := or_byte (x := x) (y := y) h0 (by omega) h2 (by omega)
  rw [w64 (n := x * 256) (by omega) (by omega), w64 (n := y) (by omega) (by omega)] at h
  exact h
end Go.Proofs.Ythepnjbefngooaa.H
