/- Strings as lists of bytes: small laws. -/
import Derived.Test.YthipnbiilobjeaaRep0
namespace Go.Proofs.Ythipnbiilobjeaa
open Go.RowKit

/-- A list of bytes as a string. -/
def mkS (l : List UInt8) : ByteArray := ⟨l.toArray⟩
/-- A string's bytes. -/
def bl (s : ByteArray) : List UInt8 := s.data.toList

theorem bl_mk (l : List UInt8) : bl (mkS l) = l := by simp [bl, mkS]
theorem mk_bl (s : ByteArray) : mkS (bl s) = s := rfl
theorem bl_length (s : ByteArray) : (bl s).length = s.size := by simp [bl]
theorem mk_size (l : List UInt8) : (mkS l).size = l.length := by simp [mkS, ByteArray.size]
theorem bl_inj {s t : ByteArray} (h : bl s = bl t) : s = t := by rw [← mk_bl s, h, mk_bl]
theorem mk_inj {l m : List UInt8} (h : mkS l = mkS m) : l = m := by rw [← bl_mk l, h, bl_mk]
theorem sget {s : ByteArray} {k : Nat} (h : k < s.size) : (bl s)[k]? = some s[k] := by
  have h' : k < s.data.toList.length := by simpa using h
  unfold bl
  rw [List.getElem?_eq_getElem h']
  rfl
theorem sgetD {s : ByteArray} {k : Nat} (h : k < s.size) : (bl s).getD k 0 = s[k] := by rw [List.getD, sget h]; rfl
theorem mkget {l : List UInt8} {k : Nat} (h : k < (mkS l).size) : (mkS l)[k] = l.getD k 0 := by rw [← sgetD h, bl_mk]
theorem stake {s : ByteArray} {k : Nat} (h : k < s.size) : (bl s).take (k + 1) = (bl s).take k ++ [s[k]] := by
  rw [List.take_add_one, sget h]
  rfl
theorem stake_all (s : ByteArray) : (bl s).take s.size = bl s := List.take_of_length_le (by rw [bl_length]; exact Nat.le_refl _)
theorem bl_extract (s : ByteArray) (a b : Nat) : bl (s.extract a b) = ((bl s).take b).drop a := by
  unfold bl
  simp [ByteArray.data_extract, Array.toList_extract, List.drop_take]
theorem bl_append (s t : ByteArray) : bl (s ++ t) = bl s ++ bl t := by
  unfold bl
  simp
theorem mk_append (l m : List UInt8) : mkS l ++ mkS m = mkS (l ++ m) := bl_inj (by rw [bl_append, bl_mk, bl_mk, bl_mk])
theorem extract_all (s : ByteArray) : s.extract 0 s.size = s := bl_inj (by rw [bl_extract, stake_all]; rfl)
theorem mk_extract (l : List UInt8) (a b : Nat) : (mkS l).extract a b = mkS ((l.take b).drop a) := bl_inj (by rw [bl_extract, bl_mk, bl_mk])
theorem toList_bl (s : ByteArray) : s.toList = bl s := ByteArray.toList_eq s
/-- '==' between strings, as a walk writes it. -/
theorem seq_true {a b : ByteArray} (h : a = b) : (a.toList == b.toList) = true := by simp [h]
theorem seq_false {a b : ByteArray} (h : a ≠ b) : (a.toList == b.toList) = false := by
  rw [beq_eq_false_iff_ne, toList_bl, toList_bl]
  exact fun e => h (bl_inj e)
theorem seq_dec (a b : ByteArray) : (a.toList == b.toList) = decide (a = b) := by
  by_cases h : a = b
  · rw [seq_true h]; simp [h]
  · rw [seq_false h]; simp [h]
end Go.Proofs.Ythipnbiilobjeaa
