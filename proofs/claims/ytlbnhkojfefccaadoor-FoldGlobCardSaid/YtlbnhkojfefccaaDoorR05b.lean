/- Walks of the reference pouchref05: Rune. Printed by gen05b.py. -/
import Derived.Test.YtlbnhkojfefccaaDoorR05a
import Derived.Test.YtlbnhkojfefccaaDoorBits
namespace Go.Proofs.YtlbnhkojfefccaaDoor
open Go.RowKit Pk U8 Su Fo

theorem and_u8_63 (n : Int) (h0 : 0 ≤ n) (h1 : n < 256) : bits .and .u8 n 63 = n % 64 := bits_mask .u8 8 (by decide) wraps_u8 6 (by decide) n h0 h1
theorem and_i64_31 (n : Int) (h0 : 0 ≤ n) (h1 : n < 256) : bits .and .i64 n 31 = n % 32 :=
  bits_mask .i64 62 (by decide) wraps_i64 5 (by decide) n h0 (by have : (2 : Int) ^ 62 = 4611686018427387904 := by decide
                                                                 omega)
theorem and_i64_15 (n : Int) (h0 : 0 ≤ n) (h1 : n < 256) : bits .and .i64 n 15 = n % 16 :=
  bits_mask .i64 62 (by decide) wraps_i64 4 (by decide) n h0 (by have : (2 : Int) ^ 62 = 4611686018427387904 := by decide
                                                                 omega)
theorem and_i64_7 (n : Int) (h0 : 0 ≤ n) (h1 : n < 256) : bits .and .i64 n 7 = n % 8 :=
  bits_mask .i64 62 (by decide) wraps_i64 3 (by decide) n h0 (by have : (2 : Int) ^ 62 = 4611686018427387904 := by decide
                                                                 omega)
/-- the value of the first i bytes, the first taken modulo m -/
def runeF (l : List UInt8) (m : Nat) : Nat → Nat
  | 0 => at' l 0 % m
  | i + 1 => runeF l m i * 64 + at' l (i + 1) % 64
theorem runeF_bd (l : List UInt8) (m : Nat) (hm : 0 < m) (hm2 : m ≤ 32) : ∀ i, i ≤ 3 → runeF l m i < 32 * 64 ^ i := by
  intro i
  induction i with
  | zero => intro _; have := Nat.mod_lt (at' l 0) hm; simp only [runeF]; omega
  | succ i ih =>
    intro h
    have h1 := ih (by omega)
    have h2 := Nat.mod_lt (at' l (i + 1)) (show 0 < 64 by decide)
    simp only [runeF, Nat.pow_succ]
    omega
theorem at_get5 (s : ByteArray) (k : Nat) (h : k < s.size) : at' s.data.toList k = s[k].toNat := at_g5 s k h
set_option maxHeartbeats 1000000 in
set_option maxRecDepth 100000 in
theorem runeR_2 (u : ByteArray) (w : World) (hz : u.size = 2) : Calls Tryd.prog 29 #[.string u] w fun e w' => e = .returned (.int .i64 (runeF u.data.toList 32 1)) ∧ w = w' := by
  have b0 := u[0].toNat_lt
  have hb0 := and_i64_31 (u[0].toNat : Int) (by omega) (by omega)
  have h0 : Hid ((u[0].toNat : Int) % 32 = runeF u.data.toList 32 0) := by show _ = _; simp only [runeF]; rw [at_g5 u 0 (by omega)]; omega
  obtain ⟨V, hV⟩ : ∃ V, V = runeF u.data.toList 32 1 := ⟨_, rfl⟩
  rw [← hV]
  have HV := Lib.hid hV
  clear hV
  go_enter Tryd.func29, Tryd.ntmps29
  go_wp2
  go_loopw [3, 4] (fun rv iv wi => ∃ (j N : Nat), rv = .int .i64 N ∧ iv = .int .i64 j ∧ wi = w ∧ 1 ≤ j ∧ j ≤ 2 ∧ N < 100000000 ∧ Hid (N = runeF u.data.toList 32 (j - 1))) (fun _ iv _ => 2 - (intOf iv).toNat)
  case atStart => exact ⟨1, u[0].toNat % 32, by go_num, by first | rfl | trivial, by first | rfl | trivial, by omega, by omega, by omega, by show _ = _; have := h0.out; show _ = runeF u.data.toList 32 0; omega⟩
  case round =>
    obtain ⟨j, N, rfl, rfl, rfl, hj1, hj2, hN, hNv⟩ := hrel
    by_cases hj : j < 2
    · have hju : j < u.size := by omega
      have bj := u[j].toNat_lt
      have hbj := and_u8_63 (u[j].toNat : Int) (by omega) (by omega)
      have hd : Hid (N * 64 + u[j].toNat % 64 = runeF u.data.toList 32 (j + 1 - 1)) := by
        show _ = _
        obtain ⟨q, rfl⟩ : ∃ q, j = q + 1 := ⟨j - 1, by omega⟩
        rw [show q + 1 + 1 - 1 = q + 1 by omega, runeF, at_g5 u (q + 1) hju, hNv.out]; rfl
      have hbd := runeF_bd u.data.toList 32 (by omega) (by omega) j (by omega)
      have hp : 32 * 64 ^ j ≤ 32 * 64 ^ 3 := Nat.mul_le_mul_left _ (Nat.pow_le_pow_right (by omega) (by omega))
      have hb2 : N * 64 + u[j].toNat % 64 < 100000000 := by rw [hd.out]; show runeF u.data.toList 32 j < _; omega
      have hdec : decide (j < 2) = true := decide_eq_true hj
      clear hNv hbd hp
      go_wp2
      go_roundw
      case rel => exact ⟨j + 1, N * 64 + u[j].toNat % 64, by go_num, by go_num, by first | rfl | trivial, by omega, by omega, hb2, hd⟩
      case measure => simp [intOf]; omega
    · obtain rfl : j = 2 := by omega
      have hd : Hid (N = V) := by show _ = _; rw [HV.out]; exact hNv.out
      clear hNv
      go_wp2
      go_ret
      exact ⟨congrArg (fun l : Nat => Ending.returned (.int .i64 (l : Int))) hd.out, rfl⟩
set_option maxHeartbeats 1000000 in
set_option maxRecDepth 100000 in
theorem runeR_3 (u : ByteArray) (w : World) (hz : u.size = 3) : Calls Tryd.prog 29 #[.string u] w fun e w' => e = .returned (.int .i64 (runeF u.data.toList 16 2)) ∧ w = w' := by
  have b0 := u[0].toNat_lt
  have hb0 := and_i64_15 (u[0].toNat : Int) (by omega) (by omega)
  have h0 : Hid ((u[0].toNat : Int) % 16 = runeF u.data.toList 16 0) := by show _ = _; simp only [runeF]; rw [at_g5 u 0 (by omega)]; omega
  obtain ⟨V, hV⟩ : ∃ V, V = runeF u.data.toList 16 2 := ⟨_, rfl⟩
  rw [← hV]
  have HV := Lib.hid hV
  clear hV
  go_enter Tryd.func29, Tryd.ntmps29
  go_wp2
  go_loopw [3, 4] (fun rv iv wi => ∃ (j N : Nat), rv = .int .i64 N ∧ iv = .int .i64 j ∧ wi = w ∧ 1 ≤ j ∧ j ≤ 3 ∧ N < 100000000 ∧ Hid (N = runeF u.data.toList 16 (j - 1))) (fun _ iv _ => 3 - (intOf iv).toNat)
  case atStart => exact ⟨1, u[0].toNat % 16, by go_num, by first | rfl | trivial, by first | rfl | trivial, by omega, by omega, by omega, by show _ = _; have := h0.out; show _ = runeF u.data.toList 16 0; omega⟩
  case round =>
    obtain ⟨j, N, rfl, rfl, rfl, hj1, hj2, hN, hNv⟩ := hrel
    by_cases hj : j < 3
    · have hju : j < u.size := by omega
      have bj := u[j].toNat_lt
      have hbj := and_u8_63 (u[j].toNat : Int) (by omega) (by omega)
      have hd : Hid (N * 64 + u[j].toNat % 64 = runeF u.data.toList 16 (j + 1 - 1)) := by
        show _ = _
        obtain ⟨q, rfl⟩ : ∃ q, j = q + 1 := ⟨j - 1, by omega⟩
        rw [show q + 1 + 1 - 1 = q + 1 by omega, runeF, at_g5 u (q + 1) hju, hNv.out]; rfl
      have hbd := runeF_bd u.data.toList 16 (by omega) (by omega) j (by omega)
      have hp : 32 * 64 ^ j ≤ 32 * 64 ^ 3 := Nat.mul_le_mul_left _ (Nat.pow_le_pow_right (by omega) (by omega))
      have hb2 : N * 64 + u[j].toNat % 64 < 100000000 := by rw [hd.out]; show runeF u.data.toList 16 j < _; omega
      have hdec : decide (j < 3) = true := decide_eq_true hj
      clear hNv hbd hp
      go_wp2
      go_roundw
      case rel => exact ⟨j + 1, N * 64 + u[j].toNat % 64, by go_num, by go_num, by first | rfl | trivial, by omega, by omega, hb2, hd⟩
      case measure => simp [intOf]; omega
    · obtain rfl : j = 3 := by omega
      have hd : Hid (N = V) := by show _ = _; rw [HV.out]; exact hNv.out
      clear hNv
      go_wp2
      go_ret
      exact ⟨congrArg (fun l : Nat => Ending.returned (.int .i64 (l : Int))) hd.out, rfl⟩
set_option maxHeartbeats 1000000 in
set_option maxRecDepth 100000 in
theorem runeR_4 (u : ByteArray) (w : World) (hz : u.size = 4) : Calls Tryd.prog 29 #[.string u] w fun e w' => e = .returned (.int .i64 (runeF u.data.toList 8 3)) ∧ w = w' := by
  have b0 := u[0].toNat_lt
  have hb0 := and_i64_7 (u[0].toNat : Int) (by omega) (by omega)
  have h0 : Hid ((u[0].toNat : Int) % 8 = runeF u.data.toList 8 0) := by show _ = _; simp only [runeF]; rw [at_g5 u 0 (by omega)]; omega
  obtain ⟨V, hV⟩ : ∃ V, V = runeF u.data.toList 8 3 := ⟨_, rfl⟩
  rw [← hV]
  have HV := Lib.hid hV
  clear hV
  go_enter Tryd.func29, Tryd.ntmps29
  go_wp2
  go_loopw [3, 4] (fun rv iv wi => ∃ (j N : Nat), rv = .int .i64 N ∧ iv = .int .i64 j ∧ wi = w ∧ 1 ≤ j ∧ j ≤ 4 ∧ N < 100000000 ∧ Hid (N = runeF u.data.toList 8 (j - 1))) (fun _ iv _ => 4 - (intOf iv).toNat)
  case atStart => exact ⟨1, u[0].toNat % 8, by go_num, by first | rfl | trivial, by first | rfl | trivial, by omega, by omega, by omega, by show _ = _; have := h0.out; show _ = runeF u.data.toList 8 0; omega⟩
  case round =>
    obtain ⟨j, N, rfl, rfl, rfl, hj1, hj2, hN, hNv⟩ := hrel
    by_cases hj : j < 4
    · have hju : j < u.size := by omega
      have bj := u[j].toNat_lt
      have hbj := and_u8_63 (u[j].toNat : Int) (by omega) (by omega)
      have hd : Hid (N * 64 + u[j].toNat % 64 = runeF u.data.toList 8 (j + 1 - 1)) := by
        show _ = _
        obtain ⟨q, rfl⟩ : ∃ q, j = q + 1 := ⟨j - 1, by omega⟩
        rw [show q + 1 + 1 - 1 = q + 1 by omega, runeF, at_g5 u (q + 1) hju, hNv.out]; rfl
      have hbd := runeF_bd u.data.toList 8 (by omega) (by omega) j (by omega)
      have hp : 32 * 64 ^ j ≤ 32 * 64 ^ 3 := Nat.mul_le_mul_left _ (Nat.pow_le_pow_right (by omega) (by omega))
      have hb2 : N * 64 + u[j].toNat % 64 < 100000000 := by rw [hd.out]; show runeF u.data.toList 8 j < _; omega
      have hdec : decide (j < 4) = true := decide_eq_true hj
      clear hNv hbd hp
      go_wp2
      go_roundw
      case rel => exact ⟨j + 1, N * 64 + u[j].toNat % 64, by go_num, by go_num, by first | rfl | trivial, by omega, by omega, hb2, hd⟩
      case measure => simp [intOf]; omega
    · obtain rfl : j = 4 := by omega
      have hd : Hid (N = V) := by show _ = _; rw [HV.out]; exact hNv.out
      clear hNv
      go_wp2
      go_ret
      exact ⟨congrArg (fun l : Nat => Ending.returned (.int .i64 (l : Int))) hd.out, rfl⟩
end Go.Proofs.YtlbnhkojfefccaaDoor
