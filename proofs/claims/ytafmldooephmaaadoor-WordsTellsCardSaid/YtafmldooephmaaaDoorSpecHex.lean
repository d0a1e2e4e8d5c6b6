/- Hexadecimal digits, plain. -/
import Derived.Test.YtafmldooephmaaaDoorKit
import Derived.Lib.Bytealg
namespace Hx
open Pk
def unhexI (n : Int) : Int := if 48 ≤ n ∧ n ≤ 57 then n - 48 else if 97 ≤ n ∧ n ≤ 102 then n - 97 + 10 else if 65 ≤ n ∧ n ≤ 70 then n - 65 + 10 else -1
def unhexR (c : UInt8) : Int := unhexI c.toNat
theorem unhexI_num {n : Int} (h0 : 48 ≤ n) (h1 : n ≤ 57) : unhexI n = n - 48 := by unfold unhexI; rw [if_pos ⟨h0, h1⟩]
theorem unhexI_low {n : Int} (h0 : 97 ≤ n) (h1 : n ≤ 102) : unhexI n = n - 97 + 10 := by unfold unhexI; rw [if_neg (by omega), if_pos ⟨h0, h1⟩]
theorem unhexI_up {n : Int} (h0 : 65 ≤ n) (h1 : n ≤ 70) : unhexI n = n - 65 + 10 := by unfold unhexI; rw [if_neg (by omega), if_neg (by omega), if_pos ⟨h0, h1⟩]
theorem unhexI_no {n : Int} (h : n < 48 ∨ (57 < n ∧ n < 65) ∨ (70 < n ∧ n < 97) ∨ 102 < n) : unhexI n = -1 := by unfold unhexI; rw [if_neg (by omega), if_neg (by omega), if_neg (by omega)]
theorem unhexI_range (n : Int) : -1 ≤ unhexI n ∧ unhexI n < 16 := by unfold unhexI; split <;> (try split) <;> (try split) <;> omega
theorem unhexR_range (c : UInt8) : -1 ≤ unhexR c ∧ unhexR c < 16 := unhexI_range _
theorem ixhex_plain : ∀ n : Nat, n < 256 → ((n : Int) < 65 ∨ 70 < (n : Int)) → Go.Lib.indexByte [48, 49, 50, 51, 52, 53, 54, 55, 56, 57, 97, 98, 99, 100, 101, 102] (b8 (n : Int)) = unhexI (n : Int) := by
  decide +kernel
theorem ixhex_great : ∀ n : Nat, n < 256 → (65 ≤ (n : Int) ∧ (n : Int) ≤ 70) → Go.Lib.indexByte [48, 49, 50, 51, 52, 53, 54, 55, 56, 57, 97, 98, 99, 100, 101, 102] (b8 ((n : Int) + 32)) = unhexI (n : Int) := by
  decide +kernel
/-- the bytes of a hexadecimal string -/
def unhexL : List UInt8 → Option (List UInt8)
  | [] => some []
  | [_] => none
  | a :: b :: r => if 0 ≤ unhexR a ∧ 0 ≤ unhexR b then (unhexL r).map (b8 (16 * unhexR a + unhexR b) :: ·) else none
end Hx
