/- Plain: days and dates. -/
import Derived.Test.YtlgnhngbmciaoaaDoorDtC
namespace Dt

/-- the number of a day from its date, as the program reckons it -/
def cntL (y m d : Int) : Int := (if m < 3 then y - 1 else y) / 400 * 146097 + (if m < 3 then y - 1 else y) % 400 * 365 + (if m < 3 then y - 1 else y) % 400 / 4 - (if m < 3 then y - 1 else y) % 400 / 100 + ((153 * ((m + 9) % 12) + 2) / 5 + d - 1) - 719468
structure D where
  y : Int
  m : Int
  d : Int
  deriving DecidableEq
def insO (o : Int) : Int := o - (365 * yr o + yr o / 4 - yr o / 100)
def civO (z : Int) : D :=
  let k := (5 * insO (z % 146097) + 2) / 153
  ⟨if (k + 2) % 12 + 1 < 3 then z / 146097 * 400 + yr (z % 146097) + 1 else z / 146097 * 400 + yr (z % 146097), (k + 2) % 12 + 1, insO (z % 146097) - (153 * k + 2) / 5 + 1⟩
def civL (n : Int) : D := if n < -719162 ∨ 2932896 < n then ⟨0, 0, 0⟩ else civO (n + 719468)
/-- a date's parts: o is the day within 400 years, its year, the day within the year -/
theorem parts (o : Int) (h0 : 0 ≤ o) (h1 : o < 146097) : 0 ≤ yr o ∧ yr o ≤ 399 ∧ 0 ≤ insO o ∧ insO o ≤ 365 ∧ o = 365 * yr o + yr o / 4 - yr o / 100 + insO o ∧ insO o < 365 + (yr o + 1) / 4 - yr o / 4 - ((yr o + 1) / 100 - yr o / 100) + (yr o + 1) / 400 := by
  obtain ⟨a1, a2, a3, a4⟩ := cyc o h0 h1
  unfold insO
  omega
/-- the parts of a day decide its year -/
theorem yr_of (y i : Int) (h0 : 0 ≤ y) (h1 : y ≤ 399) (hi : 0 ≤ i) (h2 : i < 365 + (y + 1) / 4 - y / 4 - ((y + 1) / 100 - y / 100) + (y + 1) / 400) : yr (365 * y + y / 4 - y / 100 + i) = y ∧ insO (365 * y + y / 4 - y / 100 + i) = i := by
  have b0 : 0 ≤ 365 * y + y / 4 - y / 100 + i := by omega
  have b1 : 365 * y + y / 4 - y / 100 + i < 146097 := by omega
  obtain ⟨a1, a2, a3, a4⟩ := cyc _ b0 b1
  have e : yr (365 * y + y / 4 - y / 100 + i) = y := by
    generalize yr (365 * y + y / 4 - y / 100 + i) = z at *
    by_cases h3 : z + 1 ≤ y
    · exfalso
      have e1 : (z + 1) / 400 = 0 := by omega
      have e2 : (z + 1) / 4 ≤ y / 4 := Int.ediv_le_ediv (by decide) h3
      have e3 : y / 100 - (z + 1) / 100 ≤ y - (z + 1) := by omega
      omega
    · by_cases h4 : y + 1 ≤ z
      · exfalso
        have e1 : (y + 1) / 400 = 0 := by omega
        have e2 : (y + 1) / 4 ≤ z / 4 := Int.ediv_le_ediv (by decide) h4
        have e3 : z / 100 - (y + 1) / 100 ≤ z - (y + 1) := by omega
        omega
      · omega
  refine ⟨e, ?_⟩
  unfold insO
  rw [e]; omega
theorem civL_in {n : Int} (h : -719162 ≤ n ∧ n ≤ 2932896) : civL n = civO (n + 719468) := by unfold civL; rw [if_neg (by omega)]
theorem civL_out {n : Int} (h : ¬ (-719162 ≤ n ∧ n ≤ 2932896)) : civL n = ⟨0, 0, 0⟩ := by unfold civL; rw [if_pos (by omega)]
theorem mon_hi {k : Int} (h0 : 10 ≤ k) (h1 : k ≤ 11) : (k + 2) % 12 = k - 10 := by omega
theorem mon_lo {k : Int} (h0 : 0 ≤ k) (h1 : k ≤ 9) : (k + 2) % 12 = k + 2 := by omega
theorem civO_rng {z : Int} (h0 : 306 ≤ z) (h1 : z ≤ 3652364) : 1 ≤ (civO z).y ∧ (civO z).y ≤ 9999 ∧ 1 ≤ (civO z).m ∧ (civO z).m ≤ 12 ∧ 1 ≤ (civO z).d ∧ (civO z).d ≤ 31 := by
  obtain ⟨a1, a2, a3, a4, a5, a6⟩ := parts (z % 146097) (by omega) (by omega)
  unfold civO
  simp only
  generalize hy : yr (z % 146097) = y at *
  generalize hi : insO (z % 146097) = i at *
  generalize hk : (5 * i + 2) / 153 = k at *
  have hk0 : 0 ≤ k ∧ k ≤ 11 := by omega
  have hzz : z = z / 146097 * 146097 + z % 146097 := by omega
  generalize z / 146097 = c at *
  generalize z % 146097 = o at *
  have hc : 0 ≤ c ∧ c ≤ 24 := by omega
  have e1 : y = 0 → y / 4 = 0 ∧ y / 100 = 0 := by omega
  have e2 : y = 399 → y / 4 = 99 ∧ y / 100 = 3 := by omega
  have q1 : c = 0 → y = 0 → 10 ≤ k := fun h1 h2 => by
    obtain ⟨f1, f2⟩ := e1 h2
    rw [f1, f2] at a5
    omega
  have q2 : c = 24 → y = 399 → k ≤ 9 := fun h1 h2 => by
    obtain ⟨f1, f2⟩ := e2 h2
    rw [f1, f2] at a5
    omega
  clear e1 e2 a5 a6 hzz
  refine ⟨?_, ?_, by omega, by omega, by omega, by omega⟩
  · split
    · omega
    · by_cases h1 : c = 0
      · by_cases h2 : y = 0
        · rename_i hs
          rw [mon_hi (q1 h1 h2) hk0.2] at hs; omega
        · omega
      · omega
  · split
    · by_cases h1 : c = 24
      · by_cases h2 : y = 399
        · rename_i hs
          rw [mon_lo hk0.1 (q2 h1 h2)] at hs; omega
        · omega
      · omega
    · omega
theorem cnt_civ (z : Int) : cntL (civO z).y (civO z).m (civO z).d = z - 719468 := by
  obtain ⟨a1, a2, a3, a4, a5, a6⟩ := parts (z % 146097) (by omega) (by omega)
  unfold civO cntL
  simp only
  generalize hy : yr (z % 146097) = y at *
  generalize hi : insO (z % 146097) = i at *
  generalize hk : (5 * i + 2) / 153 = k at *
  have hk0 : 0 ≤ k ∧ k ≤ 11 := by omega
  have e1 : ((k + 2) % 12 + 1 + 9) % 12 = k := by omega
  have e2 : (if (k + 2) % 12 + 1 < 3 then (if (k + 2) % 12 + 1 < 3 then z / 146097 * 400 + y + 1 else z / 146097 * 400 + y) - 1 else if (k + 2) % 12 + 1 < 3 then z / 146097 * 400 + y + 1 else z / 146097 * 400 + y) = z / 146097 * 400 + y := by
    split <;> omega
  rw [e1, e2]
  have e3 : (z / 146097 * 400 + y) / 400 = z / 146097 := by omega
  have e4 : (z / 146097 * 400 + y) % 400 = y := by omega
  rw [e3, e4]
  omega
/-- how long a month is -/
def leapB (y : Int) : Bool := (decide (y % 4 = 0) && !decide (y % 100 = 0)) || decide (y % 400 = 0)
def mlen (y m : Int) : Int := if m = 2 then (if leapB y = true then 29 else 28) else if m = 4 ∨ m = 6 ∨ m = 9 ∨ m = 11 then 30 else 31
def okD (x : D) : Prop := 1 ≤ x.y ∧ x.y ≤ 9999 ∧ 1 ≤ x.m ∧ x.m ≤ 12 ∧ 1 ≤ x.d ∧ x.d ≤ mlen x.y x.m
theorem leap_iff (y : Int) : leapB y = true ↔ (y % 4 = 0 ∧ y % 100 ≠ 0) ∨ y % 400 = 0 := by
  unfold leapB
  simp
end Dt
