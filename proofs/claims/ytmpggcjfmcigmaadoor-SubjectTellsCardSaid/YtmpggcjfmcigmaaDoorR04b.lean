/- The reference pouchref04's first, in plain Lean: the value of the first m bytes. -/
import Derived.Test.YtmpggcjfmcigmaaDoorR04
namespace Go.Proofs.YtmpggcjfmcigmaaDoor
open Go.RowKit Pk U8 Su Fo

def off (m : Nat) : Int := if m = 2 then 192 else if m = 3 then 224 else if m = 4 then 240 else 0
/-- the value after i further bytes -/
def valF (l : List UInt8) (m : Nat) : Nat → Int
  | 0 => (at' l 0 : Int) - off m
  | i + 1 => 64 * valF l m i + (at' l (i + 1) : Int) - 128
def valR (l : List UInt8) (m : Nat) : Int := valF l m (m - 1)
theorem val_bd (l : List UInt8) (m : Nat) : ∀ i, i ≤ 3 → -100000000 ≤ valF l m i ∧ valF l m i ≤ 100000000 := by
  intro i hi
  have a0 := at_lt l 0
  have a1 := at_lt l 1
  have a2 := at_lt l 2
  have a3 := at_lt l 3
  have ho : 0 ≤ off m ∧ off m ≤ 240 := by unfold off; repeat (first | omega | split)
  match i, hi with
  | 0, _ => simp only [valF, Nat.zero_add, Nat.reduceAdd]; omega
  | 1, _ => simp only [valF, Nat.zero_add, Nat.reduceAdd]; omega
  | 2, _ => simp only [valF, Nat.zero_add, Nat.reduceAdd]; omega
  | 3, _ => simp only [valF, Nat.zero_add, Nat.reduceAdd]; omega
theorem take_at {l : List UInt8} {m : Nat} {e : List UInt8} (h : e = l.take m) (i : Nat) (hi : i < e.length) : at' l i = at' e i := by
  subst h
  unfold at'
  rw [List.getD_eq_getElem?_getD, List.getD_eq_getElem?_getD, List.getElem?_take, if_pos]
  rw [List.length_take] at hi; omega
theorem ofNat_at (n : Nat) (h : n < 256) : (UInt8.ofNat n).toNat = n := by simp; omega
theorem val_enc {l : List UInt8} {n m : Nat} (hs : Sca n) (hm : m ≤ l.length) (he : Lib.encodeRune (n : Int) = l.take m) : valR l m = n := by
  have hlen : (Lib.encodeRune (n : Int)).length = m := by rw [he, List.length_take]; omega
  by_cases h1 : n < 128
  · have e := enc_one n h1
    rw [e] at hlen he
    have hm1 : m = 1 := hlen.symm
    subst hm1
    have a0 := take_at he 0 (by simp)
    rw [show at' [UInt8.ofNat n] 0 = (UInt8.ofNat n).toNat from rfl, ofNat_at _ (by omega)] at a0
    simp [valR, valF, off]; omega
  · by_cases h2 : n < 2048
    · have e := enc_two n (by omega) h2
      rw [e] at hlen he
      have hm1 : m = 2 := hlen.symm
      subst hm1
      have a0 := take_at he 0 (by simp)
      have a1 := take_at he 1 (by simp)
      rw [show at' [UInt8.ofNat (192 + n / 64), UInt8.ofNat (128 + n % 64)] 0 = (UInt8.ofNat (192 + n / 64)).toNat from rfl, ofNat_at _ (by omega)] at a0
      rw [show at' [UInt8.ofNat (192 + n / 64), UInt8.ofNat (128 + n % 64)] 1 = (UInt8.ofNat (128 + n % 64)).toNat from rfl, ofNat_at _ (by omega)] at a1
      simp [valR, valF, off]; omega
    · by_cases h3 : n < 65536
      · have e := enc_three n (by unfold Sca at hs; omega)
        rw [e] at hlen he
        have hm1 : m = 3 := hlen.symm
        subst hm1
        have a0 := take_at he 0 (by simp)
        have a1 := take_at he 1 (by simp)
        have a2 := take_at he 2 (by simp)
        rw [show at' [UInt8.ofNat (224 + n / 4096), UInt8.ofNat (128 + n / 64 % 64), UInt8.ofNat (128 + n % 64)] 0 = (UInt8.ofNat (224 + n / 4096)).toNat from rfl, ofNat_at _ (by omega)] at a0
        rw [show at' [UInt8.ofNat (224 + n / 4096), UInt8.ofNat (128 + n / 64 % 64), UInt8.ofNat (128 + n % 64)] 1 = (UInt8.ofNat (128 + n / 64 % 64)).toNat from rfl, ofNat_at _ (by omega)] at a1
        rw [show at' [UInt8.ofNat (224 + n / 4096), UInt8.ofNat (128 + n / 64 % 64), UInt8.ofNat (128 + n % 64)] 2 = (UInt8.ofNat (128 + n % 64)).toNat from rfl, ofNat_at _ (by omega)] at a2
        simp [valR, valF, off]; omega
      · have g : n ≤ 1114111 := by unfold Sca at hs; omega
        have e := enc_four n (by omega) g
        rw [e] at hlen he
        have hm1 : m = 4 := hlen.symm
        subst hm1
        have a0 := take_at he 0 (by simp)
        have a1 := take_at he 1 (by simp)
        have a2 := take_at he 2 (by simp)
        have a3 := take_at he 3 (by simp)
        rw [show at' [UInt8.ofNat (240 + n / 262144), UInt8.ofNat (128 + n / 4096 % 64), UInt8.ofNat (128 + n / 64 % 64), UInt8.ofNat (128 + n % 64)] 0 = (UInt8.ofNat (240 + n / 262144)).toNat from rfl, ofNat_at _ (by omega)] at a0
        rw [show at' [UInt8.ofNat (240 + n / 262144), UInt8.ofNat (128 + n / 4096 % 64), UInt8.ofNat (128 + n / 64 % 64), UInt8.ofNat (128 + n % 64)] 1 = (UInt8.ofNat (128 + n / 4096 % 64)).toNat from rfl, ofNat_at _ (by omega)] at a1
        rw [show at' [UInt8.ofNat (240 + n / 262144), UInt8.ofNat (128 + n / 4096 % 64), UInt8.ofNat (128 + n / 64 % 64), UInt8.ofNat (128 + n % 64)] 2 = (UInt8.ofNat (128 + n / 64 % 64)).toNat from rfl, ofNat_at _ (by omega)] at a2
        rw [show at' [UInt8.ofNat (240 + n / 262144), UInt8.ofNat (128 + n / 4096 % 64), UInt8.ofNat (128 + n / 64 % 64), UInt8.ofNat (128 + n % 64)] 3 = (UInt8.ofNat (128 + n % 64)).toNat from rfl, ofNat_at _ (by omega)] at a3
        simp [valR, valF, off]; omega
end Go.Proofs.YtmpggcjfmcigmaaDoor
