/- Plain: days and dates: each date has its day; the day after. -/
import Derived.Test.YtlgnhngbmciaoaaDoorDtP
namespace Dt

theorem leap_step {q : Int} (h0 : 0 ≤ q) (h1 : q ≤ 399) : (q + 1) / 4 - q / 4 - ((q + 1) / 100 - q / 100) + (q + 1) / 400 = if leapB (q + 1) = true then 1 else 0 := by
  have c1 : (q + 1) / 4 - q / 4 = if (q + 1) % 4 = 0 then 1 else 0 := by split <;> omega
  have c2 : (q + 1) / 100 - q / 100 = if (q + 1) % 100 = 0 then 1 else 0 := by split <;> omega
  have c3 : (q + 1) / 400 = if (q + 1) % 400 = 0 then 1 else 0 := by split <;> omega
  rw [c1, c2, c3]
  by_cases h : leapB (q + 1) = true
  · rw [if_pos h]
    rw [leap_iff] at h
    split <;> split <;> split <;> omega
  · rw [if_neg h]
    rw [leap_iff] at h
    split <;> split <;> split <;> omega
theorem leap_mod (y : Int) : leapB (y % 400 + 1) = leapB (y + 1) := by
  rw [Bool.eq_iff_iff, leap_iff, leap_iff]
  omega
/-- the year's length, counted from March: y is the year in which it begins -/
def ylen (y : Int) : Int := 365 + if leapB (y + 1) = true then 1 else 0
theorem year_end {q : Int} (h0 : 0 ≤ q) (h1 : q ≤ 399) : 365 + (q + 1) / 4 - q / 4 - ((q + 1) / 100 - q / 100) + (q + 1) / 400 = ylen q := by
  have := leap_step h0 h1
  unfold ylen
  omega
/-- the day within the year that begins in March -/
def insD (m d : Int) : Int := (153 * ((m + 9) % 12) + 2) / 5 + d - 1
theorem months {m : Int} (h1 : 1 ≤ m) (h2 : m ≤ 12) : m = 1 ∨ m = 2 ∨ m = 3 ∨ m = 4 ∨ m = 5 ∨ m = 6 ∨ m = 7 ∨ m = 8 ∨ m = 9 ∨ m = 10 ∨ m = 11 ∨ m = 12 := by omega
def yM (y m : Int) : Int := if m < 3 then y - 1 else y
theorem ins_rng {y m d : Int} (h1 : 1 ≤ m) (h2 : m ≤ 12) (h3 : 1 ≤ d) (h4 : d ≤ mlen y m) : 0 ≤ insD m d ∧ insD m d < ylen (yM y m) ∧ (5 * insD m d + 2) / 153 = (m + 9) % 12 ∧ insD m d - (153 * ((m + 9) % 12) + 2) / 5 + 1 = d := by
  unfold insD
  refine ⟨?_, ?_, ?_, by omega⟩
  · have : 0 ≤ (m + 9) % 12 := by omega
    omega
  · rcases months h1 h2 with rfl | rfl | rfl | rfl | rfl | rfl | rfl | rfl | rfl | rfl | rfl | rfl
    case inr.inl =>
      have e : yM y 2 = y - 1 := rfl
      have e2 : y - 1 + 1 = y := by omega
      unfold ylen
      rw [e, e2]
      unfold mlen at h4
      rw [if_pos rfl] at h4
      split at h4
      · rename_i hl; rw [if_pos hl]; omega
      · rename_i hl; rw [if_neg hl]; omega
    all_goals
      have hd : d ≤ 31 := by unfold mlen at h4; simp at h4; omega
      have hy : ∀ z, 365 ≤ ylen z := fun z => by
        unfold ylen; split <;> omega
      refine Int.lt_of_lt_of_le ?_ (hy _)
      omega
  · rcases months h1 h2 with rfl | rfl | rfl | rfl | rfl | rfl | rfl | rfl | rfl | rfl | rfl | rfl
    all_goals
      unfold mlen at h4
      simp at h4
      try split at h4
      all_goals omega
theorem cnt_eq (y m d : Int) : cntL y m d = yM y m / 400 * 146097 + (365 * (yM y m % 400) + yM y m % 400 / 4 - yM y m % 400 / 100 + insD m d) - 719468 := by
  unfold cntL insD yM
  omega
theorem yM_rng {y m : Int} (h0 : 1 ≤ y) (h1 : y ≤ 9999) : 0 ≤ yM y m ∧ yM y m ≤ 9999 := by unfold yM; split <;> omega
theorem ylen_mod (y : Int) : ylen (y % 400) = ylen y := by unfold ylen; rw [leap_mod]
theorem okD_parts {x : D} (h : okD x) : ∃ o i : Int, o = 365 * (yM x.y x.m % 400) + yM x.y x.m % 400 / 4 - yM x.y x.m % 400 / 100 + i ∧ i = insD x.m x.d ∧ 0 ≤ o ∧ o < 146097 ∧ yr o = yM x.y x.m % 400 ∧ insO o = i ∧ cntL x.y x.m x.d + 719468 = yM x.y x.m / 400 * 146097 + o := by
  obtain ⟨h1, h2, h3, h4, h5, h6⟩ := h
  obtain ⟨i1, i2, i3, i4⟩ := ins_rng h3 h4 h5 h6
  obtain ⟨y1, y2⟩ := yM_rng (m := x.m) h1 h2
  rw [← ylen_mod] at i2
  have hq0 : 0 ≤ yM x.y x.m % 400 := by omega
  have hq1 : yM x.y x.m % 400 ≤ 399 := by omega
  rw [← year_end hq0 hq1] at i2
  obtain ⟨r1, r2⟩ := yr_of _ _ hq0 hq1 i1 i2
  refine ⟨_, _, rfl, rfl, ?_, ?_, r1, r2, ?_⟩
  · generalize yM x.y x.m % 400 = q at *
    omega
  · generalize yM x.y x.m % 400 = q at *
    omega
  · rw [cnt_eq]; omega
theorem civ_cnt {x : D} (h : okD x) : civO (cntL x.y x.m x.d + 719468) = x := by
  obtain ⟨o, i, e1, e2, o0, o1, e3, e4, e5⟩ := okD_parts h
  obtain ⟨h1, h2, h3, h4, h5, h6⟩ := h
  obtain ⟨i1, i2, i3, i4⟩ := ins_rng h3 h4 h5 h6
  rw [e5]
  have q1 : (yM x.y x.m / 400 * 146097 + o) % 146097 = o := by omega
  have q2 : (yM x.y x.m / 400 * 146097 + o) / 146097 = yM x.y x.m / 400 := by omega
  unfold civO
  simp only
  rw [q1, q2, e3, e4, e2, i3]
  have q3 : ((x.m + 9) % 12 + 2) % 12 + 1 = x.m := by omega
  rw [q3, i4]
  have q4 : yM x.y x.m / 400 * 400 + yM x.y x.m % 400 = yM x.y x.m := by omega
  rw [q4]
  have q5 : (if x.m < 3 then yM x.y x.m + 1 else yM x.y x.m) = x.y := by unfold yM; split <;> omega
  rw [q5]
theorem cnt_rng {x : D} (h : okD x) : -719162 ≤ cntL x.y x.m x.d ∧ cntL x.y x.m x.d ≤ 2932896 := by
  obtain ⟨o, i, e1, e2, o0, o1, e3, e4, e5⟩ := okD_parts h
  obtain ⟨h1, h2, h3, h4, h5, h6⟩ := h
  obtain ⟨i1, i2, i3, i4⟩ := ins_rng h3 h4 h5 h6
  obtain ⟨y1, y2⟩ := yM_rng (m := x.m) h1 h2
  have hin : insD x.m x.d = (153 * ((x.m + 9) % 12) + 2) / 5 + x.d - 1 := rfl
  have hy : yM x.y x.m = if x.m < 3 then x.y - 1 else x.y := rfl
  have hm := months h3 h4
  refine ⟨?_, ?_⟩
  · by_cases hz : yM x.y x.m = 0
    · have hj : x.m < 3 := by
        by_cases h3 : x.m < 3
        · exact h3
        · rw [if_neg h3] at hy; omega
      have hi : 306 ≤ insD x.m x.d := by
        rw [hin]
        rcases (by omega : x.m = 1 ∨ x.m = 2) with e | e <;> rw [e] <;> omega
      rw [hz] at e1 e5
      omega
    · by_cases hq : yM x.y x.m < 400
      · have : 1 ≤ yM x.y x.m % 400 := by omega
        have hb : yM x.y x.m % 400 / 100 ≤ yM x.y x.m % 400 / 4 := by omega
        omega
      · have : 1 ≤ yM x.y x.m / 400 := by omega
        omega
  · by_cases hz : yM x.y x.m = 9999
    · have hj : 3 ≤ x.m := by
        by_cases h3 : x.m < 3
        · rw [if_pos h3] at hy; omega
        · omega
      have hi : insD x.m x.d ≤ 305 := by
        have hd : x.d ≤ mlen x.y x.m := h6
        rw [hin]
        unfold mlen at hd
        rcases (by omega : x.m = 3 ∨ x.m = 4 ∨ x.m = 5 ∨ x.m = 6 ∨ x.m = 7 ∨ x.m = 8 ∨ x.m = 9 ∨ x.m = 10 ∨ x.m = 11 ∨ x.m = 12) with e | e | e | e | e | e | e | e | e | e
        all_goals
          rw [e] at hd ⊢
          simp at hd
          omega
      rw [hz] at e1 e5
      omega
    · have h24 : yM x.y x.m / 400 ≤ 24 := by omega
      by_cases h23 : yM x.y x.m / 400 ≤ 23
      · omega
      · have hq : yM x.y x.m % 400 ≤ 398 := by omega
        have hi : insD x.m x.d ≤ 365 := by
          have : ylen (yM x.y x.m) ≤ 366 := by unfold ylen; split <;> omega
          omega
        have hb : yM x.y x.m % 400 / 4 ≤ 99 := by omega
        omega
end Dt
