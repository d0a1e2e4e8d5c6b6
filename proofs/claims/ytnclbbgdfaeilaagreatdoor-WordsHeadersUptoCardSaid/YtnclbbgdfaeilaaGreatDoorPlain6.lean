/- Plain laws of the codec: decoding undoes encoding. -/
import Derived.Test.YtnclbbgdfaeilaaGreatDoorSpc6
namespace C6
open Go Pk Hx

theorem dig_val : ∀ n : Fin 64, valR (dig (n.val : Int)) = n.val ∧ dig (n.val : Int) ≠ 61 := by decide +kernel
theorem dig_val' {n : Int} (h0 : 0 ≤ n) (h1 : n < 64) : valR (dig n) = n ∧ dig n ≠ 61 := by
  have := dig_val ⟨n.toNat, by omega⟩
  simp only [Int.toNat_of_nonneg h0] at this
  exact this
theorem dR_dig {n : Int} (h0 : 0 ≤ n) (h1 : n < 64) (r : List UInt8) : dR (dig n :: r) = n :: dR r := by
  obtain ⟨a, b⟩ := dig_val' h0 h1
  rw [dR, if_neg b, a, if_pos h0]
theorem dR_brk : ∀ (l : List UInt8) (i : Nat), dR (brk i l) = dR l
  | [], _ => rfl
  | [c], i => by
    have h : dR [13, 10] = [] := by decide
    simp only [brk, dR]
    simp [show (13 : UInt8) ≠ 61 by decide, show (10 : UInt8) ≠ 61 by decide, show ¬ 0 ≤ valR 13 by decide, show ¬ 0 ≤ valR 10 by decide]
  | c :: d :: r, i => by
    have e : ∀ X, dR (13 :: 10 :: X) = dR X := by
      intro X
      rw [dR, if_neg (by decide), if_neg (by decide), dR, if_neg (by decide), if_neg (by decide)]
    rw [brk]
    split
    · conv => lhs; rw [dR, e, dR_brk (d :: r)]
      conv => rhs; rw [dR]
    · conv => lhs; rw [dR, dR_brk (d :: r)]
      conv => rhs; rw [dR]
theorem b8_nat {c : UInt8} {n : Int} (h : n = (c.toNat : Int)) : b8 n = c := by rw [h]; exact b8_of c
theorem duR_sgR (l : List UInt8) : duR (dR (sgR l)) = l := by
  fun_induction sgR l with
  | case1 a b c r ih =>
    have ha := a.toNat_lt; have hb := b.toNat_lt; have hc := c.toNat_lt
    have q0 : 0 ≤ q3 a b c := by unfold q3; omega
    have q1 : q3 a b c < 16777216 := by unfold q3; omega
    rw [dR_dig (by omega) (by omega), dR_dig (by omega) (by omega), dR_dig (by omega) (by omega), dR_dig (by omega) (by omega), duR, ih]
    have e1 : b8 (q3 a b c / 262144 * 4 + q3 a b c / 4096 % 64 / 16) = a := b8_nat (by unfold q3; omega)
    have e2 : b8 (q3 a b c / 4096 % 64 % 16 * 16 + q3 a b c / 64 % 64 / 4) = b := b8_nat (by unfold q3; omega)
    have e3 : b8 (q3 a b c / 64 % 64 % 4 * 64 + q3 a b c % 64) = c := b8_nat (by unfold q3; omega)
    rw [e1, e2, e3]
  | case2 a b =>
    have ha := a.toNat_lt; have hb := b.toNat_lt
    have q0 : 0 ≤ q2 a b := by unfold q2; omega
    have q1 : q2 a b < 16777216 := by unfold q2; omega
    rw [dR_dig (by omega) (by omega), dR_dig (by omega) (by omega), dR_dig (by omega) (by omega)]
    have e1 : b8 (q2 a b / 262144 * 4 + q2 a b / 4096 % 64 / 16) = a := b8_nat (by unfold q2; omega)
    have e2 : b8 (q2 a b / 4096 % 64 % 16 * 16 + q2 a b / 64 % 64 / 4) = b := b8_nat (by unfold q2; omega)
    have e3 : dR [61] = [] := by decide
    rw [e3, duR, e1, e2]
  | case3 a =>
    have ha := a.toNat_lt
    have q0 : 0 ≤ q1 a := by unfold q1; omega
    have q1' : q1 a < 16777216 := by unfold q1; omega
    rw [dR_dig (by omega) (by omega), dR_dig (by omega) (by omega)]
    have e1 : b8 (q1 a / 262144 * 4 + q1 a / 4096 % 64 / 16) = a := b8_nat (by unfold q1; omega)
    simp [dR, duR, e1]
  | case4 => rfl
theorem unB64_b64 (l : List UInt8) : unB64R (b64R l) = l := by
  unfold unB64R b64R
  rw [dR_brk, duR_sgR]
theorem brk_length : ∀ (l : List UInt8) (i : Nat), (brk i l).length ≤ 3 * l.length
  | [], _ => by simp [brk]
  | [c], i => by simp [brk]
  | c :: d :: r, i => by
    rw [brk]
    have := brk_length (d :: r) (i + 1)
    split <;> simp at * <;> omega

/-- escape sequences -/
theorem escR_cons {c : UInt8} (h : c ≠ 61) (X : List UInt8) : escR (c :: X) = c :: escR X := by
  have h' : ¬ c.toNat = 61 := fun e => h (by rw [← UInt8.toNat_inj]; exact e)
  match X with
  | [] => rfl
  | [d] => rfl
  | d :: e :: r => rw [escR, if_neg (fun x => h' x.1)]
theorem unhex_hex : ∀ n : Fin 16, unhexR (hexC (n.val : Int)) = n.val ∧ hexC (n.val : Int) ≠ 95 ∧ hexC (n.val : Int) ≠ 10 ∧ hexC (n.val : Int) ≠ 32 ∧ hexC (n.val : Int) ≠ 9 ∧ hexC (n.val : Int) ≠ 61 ∧ hexC (n.val : Int) ≠ 13 ∧ 33 ≤ (hexC (n.val : Int)).toNat ∧ (hexC (n.val : Int)).toNat ≤ 126 ∧ hexC (n.val : Int) ≠ 63 := by decide +kernel
theorem unhex_hex' {n : Int} (h0 : 0 ≤ n) (h1 : n < 16) : unhexR (hexC n) = n ∧ hexC n ≠ 95 ∧ hexC n ≠ 10 ∧ hexC n ≠ 32 ∧ hexC n ≠ 9 ∧ hexC n ≠ 61 ∧ hexC n ≠ 13 ∧ 33 ≤ (hexC n).toNat ∧ (hexC n).toNat ≤ 126 ∧ hexC n ≠ 63 := by
  have := unhex_hex ⟨n.toNat, by omega⟩
  simp only [Int.toNat_of_nonneg h0] at this
  exact this
theorem escR_esc (c : UInt8) (X : List UInt8) : escR (escC c ++ X) = c :: escR X := by
  have hc := c.toNat_lt
  obtain ⟨a, _⟩ := unhex_hex' (n := (c.toNat : Int) / 16) (by omega) (by omega)
  obtain ⟨b, _⟩ := unhex_hex' (n := (c.toNat : Int) % 16) (by omega) (by omega)
  show escR (61 :: hexC _ :: hexC _ :: X) = _
  rw [escR, if_pos ⟨rfl, by omega, by omega⟩, a, b, b8_nat (c := c) (by omega)]
theorem unblank_append (a b : List UInt8) : unblank (a ++ b) = unblank a ++ unblank b := by unfold unblank; rw [List.map_append]
theorem unblank_one {c : UInt8} (h : c ≠ 95) : unblank [c] = [c] := by
  have h' : ¬ c.toNat = 95 := fun e => h (by rw [← UInt8.toNat_inj]; exact e)
  unfold unblank; rw [List.map_cons, if_neg h']; rfl
theorem unblank_esc (c : UInt8) : unblank (escC c) = escC c := by
  have hc := c.toNat_lt
  obtain ⟨_, a, _⟩ := unhex_hex' (n := (c.toNat : Int) / 16) (by omega) (by omega)
  obtain ⟨_, b, _⟩ := unhex_hex' (n := (c.toNat : Int) % 16) (by omega) (by omega)
  show unblank ([61] ++ ([hexC _] ++ [hexC _])) = _
  rw [unblank_append, unblank_append, unblank_one (by decide), unblank_one a, unblank_one b]; rfl
theorem unQ_q (l : List UInt8) : unQR (qR l) = l := by
  unfold unQR
  induction l with
  | nil => rfl
  | cons c r ih =>
    rw [qR, unblank_append]
    unfold qc
    split
    · rename_i h
      unfold plainQ at h
      have h1 : c ≠ 95 := by rintro rfl; simp at h
      have h2 : c ≠ 61 := by rintro rfl; simp at h
      rw [unblank_one h1]
      show escR (c :: unblank (qR r)) = _
      rw [escR_cons h2, ih]
    · split
      · rename_i h
        have hc : c = 32 := by rw [← UInt8.toNat_inj]; show c.toNat = 32; omega
        subst hc
        show escR (32 :: unblank (qR r)) = _
        rw [escR_cons (by decide), ih]
      · rw [unblank_esc, escR_esc, ih]
theorem qR_length (l : List UInt8) : (qR l).length ≤ 3 * l.length := by
  induction l with
  | nil => simp [qR]
  | cons c r ih =>
    rw [qR, List.length_append]
    have : (qc c).length ≤ 3 := by
      unfold qc
      split
      · simp
      · split <;> simp [escC]
    rw [List.length_cons]; omega
end C6
