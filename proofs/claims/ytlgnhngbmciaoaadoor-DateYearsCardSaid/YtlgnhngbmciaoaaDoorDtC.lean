/- Plain: days and dates: the years within 400 years, one by one. -/
import Derived.Test.YtlgnhngbmciaoaaDoorKit
namespace Dt

/-! the year within 400 years, counted from March -/
def force (n : Nat) (k : Nat → Bool) : Bool := match n with
  | 0 => k 0
  | m + 1 => k (m + 1)
theorem force_eq (n : Nat) (k : Nat → Bool) : force n k = k n := by cases n <;> rfl
def yrN (o : Nat) : Nat := Nat.div (Nat.sub (Nat.add (Nat.sub o (Nat.div o 1460)) (Nat.div o 36524)) (Nat.div o 146096)) 365
def sN (y : Nat) : Nat := Nat.add (Nat.sub (Nat.add (Nat.mul 365 y) (Nat.div y 4)) (Nat.div y 100)) (Nat.div y 400)
def okY (o y : Nat) : Bool := Nat.ble y 399 && (Nat.ble (sN y) o && Nat.ble (Nat.succ o) (sN (Nat.succ y)))
def okO (o : Nat) : Bool := Nat.ble 146097 o || force (yrN o) (okY o)
def allR : Nat → Nat → Bool
  | 0, lo => okO lo
  | d + 1, lo => allR d lo && force (Nat.add lo (Nat.pow 2 d)) (allR d)
theorem allR_sound : ∀ (d lo : Nat), allR d lo = true → ∀ i, i < 2 ^ d → okO (lo + i) = true
  | 0, lo, h, i, hi => by
    obtain rfl : i = 0 := by simpa using hi
    exact h
  | d + 1, lo, h, i, hi => by
    unfold allR at h
    rw [Bool.and_eq_true, force_eq] at h
    by_cases hd : i < 2 ^ d
    · exact allR_sound d lo h.1 i hd
    · have h2 := allR_sound d _ h.2 (i - 2 ^ d) (by rw [Nat.pow_succ] at hi; omega)
      have e : Nat.add lo (Nat.pow 2 d) + (i - 2 ^ d) = lo + i := by
        show lo + 2 ^ d + (i - 2 ^ d) = lo + i
        omega
      rw [e] at h2
      exact h2
set_option maxRecDepth 100000 in
theorem all_ok : allR 18 0 = true := by decide +kernel
def yr (o : Int) : Int := (o - o / 1460 + o / 36524 - o / 146096) / 365
theorem cyc (o : Int) (h0 : 0 ≤ o) (h1 : o < 146097) : 0 ≤ yr o ∧ yr o ≤ 399 ∧ 365 * yr o + yr o / 4 - yr o / 100 ≤ o ∧ o < 365 * (yr o + 1) + (yr o + 1) / 4 - (yr o + 1) / 100 + (yr o + 1) / 400 := by
  obtain ⟨n, rfl⟩ := Int.eq_ofNat_of_zero_le h0
  have h := allR_sound 18 0 all_ok n (by have : (2 : Nat) ^ 18 = 262144 := rfl; omega)
  rw [Nat.zero_add] at h
  unfold okO at h
  rw [force_eq, Bool.or_eq_true] at h
  have h := h.resolve_left (fun e => by have := Nat.le_of_ble_eq_true e; omega)
  unfold okY at h
  rw [Bool.and_eq_true, Bool.and_eq_true] at h
  obtain ⟨a1, a2, a3⟩ := h
  have a1 := Nat.le_of_ble_eq_true a1
  have a2 := Nat.le_of_ble_eq_true a2
  have a3 := Nat.le_of_ble_eq_true a3
  have e : yr (n : Int) = (yrN n : Nat) := by
    have e1 : yrN n = (n - n / 1460 + n / 36524 - n / 146096) / 365 := rfl
    rw [e1]
    unfold yr
    omega
  have e2 : ∀ y, sN y = 365 * y + y / 4 - y / 100 + y / 400 := fun _ => rfl
  rw [e2] at a2 a3
  have e3 : Nat.succ (yrN n) = yrN n + 1 := rfl
  rw [e3] at a3
  rw [e]
  generalize yrN n = y at *
  have c1 : ((y : Int) + 1) / 4 = (((y + 1) / 4 : Nat) : Int) := by omega
  have c2 : ((y : Int) + 1) / 100 = (((y + 1) / 100 : Nat) : Int) := by omega
  have c3 : ((y : Int) + 1) / 400 = (((y + 1) / 400 : Nat) : Int) := by omega
  have c4 : (y : Int) / 4 = ((y / 4 : Nat) : Int) := by omega
  have c5 : (y : Int) / 100 = ((y / 100 : Nat) : Int) := by omega
  have b1 : (y + 1) / 100 ≤ 365 * (y + 1) := by omega
  have b2 : y / 100 ≤ 365 * y := by omega
  have b3 : y / 400 = 0 := by omega
  rw [c1, c2, c3, c4, c5]
  rw [b3] at a2
  clear e e2 e3 c1 c2 c3 c4 c5 b3
  generalize (y + 1) / 4 = p1 at *
  generalize (y + 1) / 100 = p2 at *
  generalize (y + 1) / 400 = p3 at *
  generalize y / 4 = p4 at *
  generalize y / 100 = p5 at *
  omega
end Dt
