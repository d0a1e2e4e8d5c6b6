/- Bit operations as arithmetic. -/
import Derived.Test.YtjoipgekmnnlpaaGreatDoorKit
namespace Pk
open Go
theorem wraps_i64 (n : Int) (h₀ : 0 ≤ n) (h₁ : n < 2 ^ 62) : IntKind.i64.wrap n = n := by
  rw [IntKind.wrap_i64]; have : (2 : Int) ^ 62 = 4611686018427387904 := by decide
  omega
theorem and_u8_15 (n : Int) (h0 : 0 ≤ n) (h1 : n < 256) : bits .and .u8 n 15 = n % 16 := bits_mask .u8 8 (by decide) wraps_u8 4 (by decide) n h0 h1
theorem and_i64_63 (n : Int) (h0 : 0 ≤ n) (h1 : n < 4611686018427387904) : bits .and .i64 n 63 = n % 64 :=
  bits_mask .i64 62 (by decide) wraps_i64 6 (by decide) n h0 (by have : (2 : Int) ^ 62 = 4611686018427387904 := by decide
                                                                 omega)
theorem or_i64 (i : Nat) (hi : i ≤ 61) {x y : Int} (hx₀ : 0 ≤ x) (hx : x % 2 ^ i = 0) (hx₁ : x < 4611686018427387904) (hy₀ : 0 ≤ y) (hy : y < 2 ^ i) : bits .or .i64 x y = x + y := by
  have e : (2 : Int) ^ 62 = 4611686018427387904 := by decide
  have h2 : (2 : Int) ^ i ≤ 2 ^ 62 := by
    have := Nat.pow_le_pow_right (n := 2) (by decide) (show i ≤ 62 by omega)
    exact_mod_cast this
  exact bits_join .i64 62 (by decide) wraps_i64 i x y hx₀ hx (by omega) hy₀ hy (by omega)
end Pk
