/- Small laws of no program: strings cut and tested. -/
import Derived.Test.YtjoipgekmnnlpaaGreatDoorKitX
import Derived.Lib.IndexBytes
namespace Pk
open Go Go.RowKit

theorem ext_eq (S : ByteArray) (a b : Nat) : S.extract a b = ⟨((S.data.toList.drop a).take (b - a)).toArray⟩ := by
  have h := Lib.extract_data S a b
  generalize S.extract a b = X at *
  obtain ⟨⟨l⟩⟩ := X
  have h : l = _ := h
  rw [h]
theorem ext_to (S : ByteArray) (n : Nat) : S.extract 0 n = ⟨(S.data.toList.take n).toArray⟩ := by rw [ext_eq, List.drop_zero, Nat.sub_zero]
theorem ext_from (S : ByteArray) (n : Nat) : (S.extract n S.size).data.toList = S.data.toList.drop n := Lib.extract_to_end S n
theorem ext_size (S : ByteArray) (a b : Nat) : (S.extract a b).size = min b S.size - a := ByteArray.size_extract ..
theorem nilS {S : ByteArray} (h : S.size = 0) : S.toList = [] := by
  rw [Lib.toList_data]; exact List.eq_nil_of_length_eq_zero h
theorem neS {S : ByteArray} (h : 0 < S.size) : S.toList.isEmpty = false := by
  rw [Lib.toList_data]
  have : S.data.toList.length = S.size := rfl
  cases hd : S.data.toList with
  | nil => rw [hd] at this; simp at this; omega
  | cons c r => rfl
theorem arrE (l : List UInt8) : ∃ A : ByteArray, A = ⟨l.toArray⟩ ∧ A.data.toList = l ∧ A.size = l.length := ⟨⟨l.toArray⟩, rfl, by simp, by simp [ByteArray.size]⟩
theorem dataL (S : ByteArray) : S.data.toList.length = S.size := rfl
end Pk
