/- The reference pouchref04's first, in plain Lean: the value of the first m bytes. Walks of the reference pouchref04: first. Printed by gen04c.py. Walks of the reference pouchref04: first, the walk. -/
import Derived.Test.YtafmldooephmaaaDoorR04
import Derived.OwnWalk
namespace Go.Proofs.YtafmldooephmaaaDoor
open Go.RowKit Pk U8 Su Fo

def off (m : Nat) : Int := if m = 2 then 192 else if m = 3 then 224 else if m = 4 then 240 else 0
/-- the value after i further bytes -/
def valF (l : List UInt8) (m : Nat) : Nat → Int
  | 0 => (at' l 0 : Int) - off m
  | i + 1 => 64 * valF l m i + (at' l (i + 1) : Int) - 128
def valR (l : List UInt8) (m : Nat) : Int := valF l m (m - 1)
theorem val_bd (l : List UInt8) (m : Nat) : ∀ i, i ≤ 3 → -100000000 ≤ valF l m i ∧ valF l m i ≤ 100000000 := by
  intro i hi
  have a0 := at_lt l 0
  have a1 := at_lt l 1
  have a2 := at_lt l 2
  have a3 := at_lt l 3
  have ho : 0 ≤ off m ∧ off m ≤ 240 := by unfold off; repeat (first | omega | split)
  match i, hi with
  | 0, _ => simp only [valF, Nat.zero_add, Nat.reduceAdd]; omega
  | 1, _ => simp only [valF, Nat.zero_add, Nat.reduceAdd]; omega
  | 2, _ => simp only [valF, Nat.zero_add, Nat.reduceAdd]; omega
  | 3, _ => simp only [valF, Nat.zero_add, Nat.reduceAdd]; omega
theorem take_at {l : List UInt8} {m : Nat} {e : List UInt8} (h : e = l.take m) (i : Nat) (hi : i < e.length) : at' l i = at' e i := by
  subst h
  unfold at'
  rw [List.getD_eq_getElem?_getD, List.getD_eq_getElem?_getD, List.getElem?_take, if_pos]
  rw [List.length_take] at hi; omega
theorem ofNat_at (n : Nat) (h : n < 256) : (UInt8.ofNat n).toNat = n := by simp; omega
theorem val_enc {l : List UInt8} {n m : Nat} (hs : Sca n) (hm : m ≤ l.length) (he : Lib.encodeRune (n : Int) = l.take m) : valR l m = n := by
  have hlen : (Lib.encodeRune (n : Int)).length = m := by rw [he, List.length_take]; omega
  by_cases h1 : n < 128
  · have e := enc_one n h1
    rw [e] at hlen he
    have hm1 : m = 1 := hlen.symm
    subst hm1
    have a0 := take_at he 0 (by simp)
    rw [show at' [UInt8.ofNat n] 0 = (UInt8.ofNat n).toNat from rfl, ofNat_at _ (by omega)] at a0
    simp [valR, valF, off]; omega
  · by_cases h2 : n < 2048
    · have e := enc_two n (by omega) h2
      rw [e] at hlen he
      have hm1 : m = 2 := hlen.symm
      subst hm1
      have a0 := take_at he 0 (by simp)
      have a1 := take_at he 1 (by simp)
      rw [show at' [UInt8.ofNat (192 + n / 64), UInt8.ofNat (128 + n % 64)] 0 = (UInt8.ofNat (192 + n / 64)).toNat from rfl, ofNat_at _ (by omega)] at a0
      rw [show at' [UInt8.ofNat (192 + n / 64), UInt8.ofNat (128 + n % 64)] 1 = (UInt8.ofNat (128 + n % 64)).toNat from rfl, ofNat_at _ (by omega)] at a1
      simp [valR, valF, off]; omega
    · by_cases h3 : n < 65536
      · have e := enc_three n (by unfold Sca at hs; omega)
        rw [e] at hlen he
        have hm1 : m = 3 := hlen.symm
        subst hm1
        have a0 := take_at he 0 (by simp)
        have a1 := take_at he 1 (by simp)
        have a2 := take_at he 2 (by simp)
        rw [show at' [UInt8.ofNat (224 + n / 4096), UInt8.ofNat (128 + n / 64 % 64), UInt8.ofNat (128 + n % 64)] 0 = (UInt8.ofNat (224 + n / 4096)).toNat from rfl, ofNat_at _ (by omega)] at a0
        rw [show at' [UInt8.ofNat (224 + n / 4096), UInt8.ofNat (128 + n / 64 % 64), UInt8.ofNat (128 + n % 64)] 1 = (UInt8.ofNat (128 + n / 64 % 64)).toNat from rfl, ofNat_at _ (by omega)] at a1
        rw [show at' [UInt8.ofNat (224 + n / 4096), UInt8.ofNat (128 + n / 64 % 64), UInt8.ofNat (128 + n % 64)] 2 = (UInt8.ofNat (128 + n % 64)).toNat from rfl, ofNat_at _ (by omega)] at a2
        simp [valR, valF, off]; omega
      · have g : n ≤ 1114111 := by unfold Sca at hs; omega
        have e := enc_four n (by omega) g
        rw [e] at hlen he
        have hm1 : m = 4 := hlen.symm
        subst hm1
        have a0 := take_at he 0 (by simp)
        have a1 := take_at he 1 (by simp)
        have a2 := take_at he 2 (by simp)
        have a3 := take_at he 3 (by simp)
        rw [show at' [UInt8.ofNat (240 + n / 262144), UInt8.ofNat (128 + n / 4096 % 64), UInt8.ofNat (128 + n / 64 % 64), UInt8.ofNat (128 + n % 64)] 0 = (UInt8.ofNat (240 + n / 262144)).toNat from rfl, ofNat_at _ (by omega)] at a0
        rw [show at' [UInt8.ofNat (240 + n / 262144), UInt8.ofNat (128 + n / 4096 % 64), UInt8.ofNat (128 + n / 64 % 64), UInt8.ofNat (128 + n % 64)] 1 = (UInt8.ofNat (128 + n / 4096 % 64)).toNat from rfl, ofNat_at _ (by omega)] at a1
        rw [show at' [UInt8.ofNat (240 + n / 262144), UInt8.ofNat (128 + n / 4096 % 64), UInt8.ofNat (128 + n / 64 % 64), UInt8.ofNat (128 + n % 64)] 2 = (UInt8.ofNat (128 + n / 64 % 64)).toNat from rfl, ofNat_at _ (by omega)] at a2
        rw [show at' [UInt8.ofNat (240 + n / 262144), UInt8.ofNat (128 + n / 4096 % 64), UInt8.ofNat (128 + n / 64 % 64), UInt8.ofNat (128 + n % 64)] 3 = (UInt8.ofNat (128 + n % 64)).toNat from rfl, ofNat_at _ (by omega)] at a3
        simp [valR, valF, off]; omega
end Go.Proofs.YtafmldooephmaaaDoor
namespace Go.Proofs.YtafmldooephmaaaDoor
open Go.RowKit Pk U8 Su Fo

def NoneB (l : List UInt8) (m : Nat) : Prop := ∀ q, 1 ≤ q → q < m → ∀ n, Sca n → Lib.encodeRune (n : Int) ≠ l.take q
theorem NoneB.more {l : List UInt8} {m : Nat} (h : NoneB l m) (hm : m ≤ l.length) (hx : ∀ n, Sca n → valR l m = n → Lib.encodeRune (n : Int) ≠ l.take m) : NoneB l (m + 1) := by
  intro q h1 h2 n hn
  by_cases hq : q < m
  · exact h q h1 hq n hn
  · have : q = m := by omega
    subst this
    intro he
    exact hx n hn (val_enc hn hm he) he
theorem NoneB.bad {l : List UInt8} {m : Nat} (h : NoneB l m) (hl : l ≠ []) (hm : m = 5 ∨ l.length < m) : ¬ Okay l := by
  intro ho
  obtain ⟨h1, h2⟩ := enc_dec l hl ho
  obtain ⟨w1, w2, w3⟩ := dec_width l hl
  exact h (dec l).2 w1 (by omega) _ h1 h2
theorem hit_okay {l : List UInt8} {n m : Nat} (hs : Sca n) (hm : m ≤ l.length) (he : Lib.encodeRune (n : Int) = l.take m) : dec l = (n, m) ∧ Okay l := by
  have hlen : (Lib.encodeRune (n : Int)).length = m := by rw [he, List.length_take]; omega
  have hd := dec_of l n hs m he
  rw [hlen] at hd
  refine ⟨hd, ?_⟩
  by_cases h1 : n < 128
  · have e := enc_one n h1
    rw [e] at he hlen
    have a0 := take_at he 0 (by simp)
    rw [show at' [UInt8.ofNat n] 0 = (UInt8.ofNat n).toNat from rfl, ofNat_at _ (by omega)] at a0
    left; omega
  · right
    rw [hd]
    show 1 < m
    by_cases h2 : n < 2048
    · rw [enc_two n (by omega) h2] at hlen; simp at hlen; omega
    · by_cases h3 : n < 65536
      · rw [enc_three n (by unfold Sca at hs; omega)] at hlen; simp at hlen; omega
      · rw [enc_four n (by omega) (by unfold Sca at hs; omega)] at hlen; simp at hlen; omega
end Go.Proofs.YtafmldooephmaaaDoor
namespace Go.Proofs.YtafmldooephmaaaDoor
open Go.RowKit Pk U8 Su Fo

def firstV (l : List UInt8) : Int × Int × Bool := if l = [] then (0, 0, false) else ((dec l).1, (dec l).2, decide (1 ≤ (dec l).2 ∧ (at' l 0 < 128 ∨ 1 < (dec l).2)))
def FirstIs (V : Int × Int × Bool) (w : World) (e : Ending) (w' : World) : Prop := e = .returned (.tuple #[.int .i64 V.1, .int .i64 V.2.1, .bool V.2.2]) ∧ Below w.heap.size w w'
theorem firstV_hit {l : List UInt8} {n m : Nat} (hl : l ≠ []) (hs : Sca n) (hm : m ≤ l.length) (he : Lib.encodeRune (n : Int) = l.take m) : firstV l = ((n : Int), (m : Int), true) := by
  obtain ⟨h1, h2⟩ := hit_okay hs hm he
  have w := (dec_width l hl).1
  unfold firstV
  rw [if_neg hl]
  have h3 : decide (1 ≤ (dec l).2 ∧ (at' l 0 < 128 ∨ 1 < (dec l).2)) = true := decide_eq_true ⟨w, h2⟩
  rw [h3, h1]
theorem firstV_bad {l : List UInt8} (hl : l ≠ []) (h : ¬ Okay l) : firstV l = (65533, 1, false) := by
  have h1 := dec_bad l h
  unfold firstV
  rw [if_neg hl]
  have h3 : decide (1 ≤ (dec l).2 ∧ (at' l 0 < 128 ∨ 1 < (dec l).2)) = false := decide_eq_false fun hx => h hx.2
  rw [h3, h1]; rfl
end Go.Proofs.YtafmldooephmaaaDoor
