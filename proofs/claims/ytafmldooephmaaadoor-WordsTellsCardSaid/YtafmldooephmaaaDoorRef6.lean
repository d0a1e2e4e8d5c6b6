/- Walks: the reference of layer 6. -/
import Derived.Test.YtafmldooephmaaaDoorRows
import Derived.Test.YtafmldooephmaaaDoorKit
import Derived.Test.YtafmldooephmaaaDoorSpec6
namespace Go.Proofs.YtafmldooephmaaaDoor
open Go.RowKit Pk C6

theorem bsl : ByteSl Tryd.prog 29 5 where
  ht := Tryd.underlying29
  he := Tryd.underlying5
  hi := info_parts (show (Tryd.prog.info? 5).map (fun i => (i.zero, i.size, i.bytes)) = some (some (.int .u8 0), 1, 1) by kernel_rfl)

theorem ret_u8 {a b : Int} (h : a = b) : Ending.returned (.int .u8 a) = .returned (.int .u8 b) := by rw [h]

theorem digit_any (n : Int) (w : World) (h0 : 0 ≤ n) (h1 : n < 64) :
    Calls Tryd.prog 87 #[.int .i64 n] w fun e w' => e = .returned (.int .u8 (dig n).toNat) ∧ w = w' := by
  go_enter Tryd.func87, Tryd.ntmps87
  go_wp2
  · go_ret; exact ⟨ret_u8 (dig_lo n h0 ‹_›).symm, rfl⟩
  · go_ret; exact ⟨ret_u8 (dig_mid n ‹_› ‹_›).symm, rfl⟩
  · go_ret; exact ⟨ret_u8 (dig_num n ‹_› ‹_›).symm, rfl⟩
  · have h : (n == 62) = true := by assumption
    obtain rfl : n = 62 := by simpa using h
    go_ret; exact ⟨ret_u8 dig_62.symm, rfl⟩
  · have h : (n == 62) = false := by assumption
    have h' : n ≠ 62 := by simpa using h
    obtain rfl : n = 63 := by omega
    go_ret; exact ⟨ret_u8 dig_63.symm, rfl⟩

theorem sgR_3 {s : ByteArray} {k : Nat} {acc : List UInt8} {X : List UInt8} (h : Hid (acc ++ sgR (tl s k) = X)) (h0 : k < s.size) (h1 : k + 1 < s.size) (h2 : k + 2 < s.size) :
    Hid (acc ++ [dig (q3 s[k] s[k + 1] s[k + 2] / 262144), dig (q3 s[k] s[k + 1] s[k + 2] / 4096 % 64)] ++ [dig (q3 s[k] s[k + 1] s[k + 2] / 64 % 64)] ++ [dig (q3 s[k] s[k + 1] s[k + 2] % 64)] ++ sgR (tl s (k + 3)) = X) := by
  have e := h.out
  rw [tl_cons s k h0, tl_cons s (k + 1) h1, tl_cons s (k + 2) h2, sgR] at e
  show _ = _
  rw [← e]
  simp
theorem sgR_2 {s : ByteArray} {k : Nat} {acc : List UInt8} {X : List UInt8} (h : Hid (acc ++ sgR (tl s k) = X)) (h0 : k < s.size) (h1 : k + 1 < s.size) (h2 : ¬ k + 2 < s.size) :
    Hid (acc ++ [dig (q2 s[k] s[k + 1] / 262144), dig (q2 s[k] s[k + 1] / 4096 % 64)] ++ [dig (q2 s[k] s[k + 1] / 64 % 64)] ++ [61] ++ sgR (tl s (k + 3)) = X) := by
  have e := h.out
  rw [tl_cons s k h0, tl_cons s (k + 1) h1, tl_end s (k + 2) (by omega), sgR] at e
  show _ = _
  rw [← e, tl_end s (k + 3) (by omega)]
  simp [sgR]
theorem sgR_1 {s : ByteArray} {k : Nat} {acc : List UInt8} {X : List UInt8} (h : Hid (acc ++ sgR (tl s k) = X)) (h0 : k < s.size) (h1 : ¬ k + 1 < s.size) :
    Hid (acc ++ [dig (q1 s[k] / 262144), dig (q1 s[k] / 4096 % 64)] ++ [61] ++ [61] ++ sgR (tl s (k + 3)) = X) := by
  have e := h.out
  rw [tl_cons s k h0, tl_end s (k + 1) (by omega), sgR] at e
  show _ = _
  rw [← e, tl_end s (k + 3) (by omega)]
  simp [sgR]
theorem sgR_0 {s : ByteArray} {k : Nat} {acc : List UInt8} (h : Hid (acc ++ sgR (tl s k) = sgR (tl s 0))) (h0 : ¬ k < s.size) : acc = sgR s.data.toList := by
  have e := h.out
  rw [tl_end s k (by omega), tl_zero] at e
  simpa [sgR] using e

theorem brk_more {D acc X : List UInt8} {j : Nat} (h : Hid (acc ++ brk j (D.drop j) = X)) (h0 : j < D.length) (h1 : ¬ j + 1 = D.length) (h2 : ¬ j % 76 = 75) :
    Hid (acc ++ [D[j]] ++ brk (j + 1) (D.drop (j + 1)) = X) := by
  have e := h.out
  have h3 : j + 1 < D.length := by omega
  rw [List.drop_eq_getElem_cons h0, List.drop_eq_getElem_cons h3, brk, if_neg h2] at e
  show _ = _
  rw [← e, List.drop_eq_getElem_cons h3]
  simp
theorem brk_line {D acc X : List UInt8} {j : Nat} (h : Hid (acc ++ brk j (D.drop j) = X)) (h0 : j < D.length) (h1 : ¬ j + 1 = D.length) (h2 : j % 76 = 75) :
    Hid (acc ++ [D[j]] ++ [13, 10] ++ brk (j + 1) (D.drop (j + 1)) = X) := by
  have e := h.out
  have h3 : j + 1 < D.length := by omega
  rw [List.drop_eq_getElem_cons h0, List.drop_eq_getElem_cons h3, brk, if_pos h2] at e
  show _ = _
  rw [← e, List.drop_eq_getElem_cons h3]
  simp
theorem brk_last {D acc X : List UInt8} {j : Nat} (h : Hid (acc ++ brk j (D.drop j) = X)) (h0 : j < D.length) (h1 : j + 1 = D.length) :
    Hid (acc ++ [D[j]] ++ [13, 10] ++ brk (j + 1) (D.drop (j + 1)) = X) := by
  have e := h.out
  have h3 : D.drop (j + 1) = [] := List.drop_eq_nil_of_le (by omega)
  rw [List.drop_eq_getElem_cons h0, h3, brk] at e
  show _ = _
  rw [← e, h3]
  simp [brk]
theorem brk_end {D acc X : List UInt8} {j : Nat} (h : Hid (acc ++ brk j (D.drop j) = X)) (h0 : ¬ j < D.length) : acc = X := by
  have e := h.out
  rw [List.drop_eq_nil_of_le (by omega)] at e
  simpa [brk] using e

end Go.Proofs.YtafmldooephmaaaDoor
