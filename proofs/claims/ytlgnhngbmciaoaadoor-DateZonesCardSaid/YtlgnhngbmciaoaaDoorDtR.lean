/- Plain: days and dates: the day after; years and their lengths. -/
import Derived.Test.YtlgnhngbmciaoaaDoorDtQ
namespace Dt

def daysL (y m d : Int) : Int := if y < 1 ∨ 9999 < y ∨ m < 1 ∨ 12 < m ∨ d < 1 ∨ 31 < d then 0 else if civL (cntL y m d) = ⟨y, m, d⟩ then cntL y m d else 0
def wkL (n : Int) : Int := (n % 7 + 4) % 7
theorem mlen_le (y m : Int) : mlen y m ≤ 31 := by unfold mlen; split; split <;> omega; split <;> omega
theorem mlen_ge (y m : Int) : 28 ≤ mlen y m := by unfold mlen; split; split <;> omega; split <;> omega
theorem civ_ok {z : Int} (h0 : 306 ≤ z) (h1 : z ≤ 3652364) : okD (civO z) := by
  obtain ⟨r1, r2, r3, r4, r5, r6⟩ := civO_rng h0 h1
  refine ⟨r1, r2, r3, r4, r5, ?_⟩
  obtain ⟨a1, a2, a3, a4, a5, a6⟩ := parts (z % 146097) (by omega) (by omega)
  rw [year_end a1 a2] at a6
  clear r1 r2 r3 r4 r5 r6 a5
  unfold civO
  simp only
  generalize yr (z % 146097) = y at *
  generalize insO (z % 146097) = i at *
  have hk : ∃ k, k = (5 * i + 2) / 153 := ⟨_, rfl⟩
  obtain ⟨k, hk⟩ := hk
  rw [← hk]
  have hk0 : 0 ≤ k ∧ k ≤ 11 := by omega
  rcases (by omega : k = 0 ∨ k = 1 ∨ k = 2 ∨ k = 3 ∨ k = 4 ∨ k = 5 ∨ k = 6 ∨ k = 7 ∨ k = 8 ∨ k = 9 ∨ k = 10 ∨ k = 11) with e | e | e | e | e | e | e | e | e | e | e | e
  case inr.inr.inr.inr.inr.inr.inr.inr.inr.inr.inr =>
    rw [e] at hk ⊢
    have e1 : ((11 : Int) + 2) % 12 + 1 = 2 := by decide
    rw [e1, if_pos (by decide)]
    unfold mlen ylen at *
    rw [if_pos rfl]
    have e2 : leapB (z / 146097 * 400 + y + 1) = leapB (y + 1) := by
      rw [Bool.eq_iff_iff, leap_iff, leap_iff]; omega
    rw [e2]
    split
    · rename_i hl; rw [if_pos hl] at a6; omega
    · rename_i hl; rw [if_neg hl] at a6; omega
  all_goals
    rw [e] at hk ⊢
    unfold mlen
    simp
    omega
theorem days_ok {x : D} (h : okD x) : daysL x.y x.m x.d = cntL x.y x.m x.d := by
  obtain ⟨h1, h2, h3, h4, h5, h6⟩ := h
  have hm := mlen_le x.y x.m
  obtain ⟨r1, r2⟩ := cnt_rng ⟨h1, h2, h3, h4, h5, h6⟩
  unfold daysL
  rw [if_neg (by omega), civL_in ⟨r1, r2⟩, civ_cnt ⟨h1, h2, h3, h4, h5, h6⟩, if_pos rfl]
theorem days_bad {y m d : Int} (h : ¬ okD ⟨y, m, d⟩) : daysL y m d = 0 := by
  unfold daysL
  split
  · rfl
  · rename_i hr
    rw [if_neg]
    intro e
    by_cases hin : -719162 ≤ cntL y m d ∧ cntL y m d ≤ 2932896
    · rw [civL_in hin] at e
      have := civ_ok (z := cntL y m d + 719468) (by omega) (by omega)
      rw [e] at this
      exact h this
    · rw [civL_out hin] at e
      injection e with e1 e2 e3
      omega
/-- where a year begins (in March) -/
def cntY (y : Int) : Int := y / 400 * 146097 + (365 * (y % 400) + y % 400 / 4 - y % 400 / 100)
theorem cntY_step (y : Int) : cntY (y + 1) = cntY y + ylen y := by
  have hq0 : 0 ≤ y % 400 := by omega
  have hq1 : y % 400 ≤ 399 := by omega
  have hy := year_end hq0 hq1
  rw [ylen_mod] at hy
  unfold cntY
  by_cases h : y % 400 = 399
  · have e1 : (y + 1) % 400 = 0 := by omega
    have e2 : (y + 1) / 400 = y / 400 + 1 := by omega
    rw [h] at hy
    rw [e1, e2, h]
    omega
  · have e1 : (y + 1) % 400 = y % 400 + 1 := by omega
    have e2 : (y + 1) / 400 = y / 400 := by omega
    rw [e1, e2]
    have e3 : (y % 400 + 1) / 400 = 0 := by omega
    omega
theorem cnt_Y (y m d : Int) : cntL y m d = cntY (yM y m) + insD m d - 719468 := by rw [cnt_eq]; unfold cntY; omega
def nextD (x : D) : D := if x.d < mlen x.y x.m then ⟨x.y, x.m, x.d + 1⟩ else if x.m < 12 then ⟨x.y, x.m + 1, 1⟩ else ⟨x.y + 1, 1, 1⟩
theorem cnt_next {x : D} (h : okD x) : cntL (nextD x).y (nextD x).m (nextD x).d = cntL x.y x.m x.d + 1 := by
  obtain ⟨y, m, d⟩ := x
  obtain ⟨h1, h2, h3, h4, h5, h6⟩ := h
  simp only at *
  unfold nextD
  simp only
  split
  · rw [cnt_Y, cnt_Y]; unfold insD; simp only; omega
  · rename_i hd
    have hd : d = mlen y m := by omega
    rcases months h3 h4 with e | e | e | e | e | e | e | e | e | e | e | e
    case inr.inl =>
      rw [e] at hd ⊢
      rw [if_pos (by decide)]
      simp only
      rw [cnt_Y, cnt_Y]
      have y1 : yM y (2 + 1) = y - 1 + 1 := by unfold yM; rw [if_neg (by decide)]; omega
      have y2 : yM y 2 = y - 1 := by unfold yM; rw [if_pos (by decide)]
      rw [y1, y2, cntY_step]
      unfold ylen insD
      unfold mlen at hd
      rw [if_pos rfl] at hd
      have y3 : y - 1 + 1 = y := by omega
      rw [y3]
      split at hd
      · rename_i hl; rw [if_pos hl]; omega
      · rename_i hl; rw [if_neg hl]; omega
    case inr.inr.inr.inr.inr.inr.inr.inr.inr.inr.inr =>
      rw [e] at hd ⊢
      rw [if_neg (by decide)]
      simp only
      rw [cnt_Y, cnt_Y]
      have y1 : yM (y + 1) 1 = y := by unfold yM; rw [if_pos (by decide)]; omega
      have y2 : yM y 12 = y := by unfold yM; rw [if_neg (by decide)]
      rw [y1, y2]
      unfold insD
      unfold mlen at hd
      simp at hd
      omega
    all_goals
      rw [e] at hd ⊢
      rw [if_pos (by decide)]
      simp only
      rw [cnt_Y, cnt_Y]
      unfold insD yM
      unfold mlen at hd
      simp at hd ⊢
      omega
theorem okD_next {x : D} (h : okD x) (hl : cntL x.y x.m x.d < 2932896) : okD (nextD x) := by
  have hx : ¬ (x.y = 9999 ∧ x.m = 12 ∧ x.d = 31) := fun ⟨e1, e2, e3⟩ => by
    rw [e1, e2, e3] at hl
    revert hl
    decide
  obtain ⟨h1, h2, h3, h4, h5, h6⟩ := h
  unfold nextD
  split
  · exact ⟨h1, h2, h3, h4, by show 1 ≤ x.d + 1; omega, by show x.d + 1 ≤ mlen x.y x.m; omega⟩
  · split
    · exact ⟨h1, h2, by show 1 ≤ x.m + 1; omega, by show x.m + 1 ≤ 12; omega, by show (1 : Int) ≤ 1; omega, by have := mlen_ge x.y (x.m + 1); show 1 ≤ mlen x.y (x.m + 1); omega⟩
    · rename_i hd hm
      have e : x.m = 12 := by omega
      have e31 : mlen x.y x.m = 31 := by rw [e]; unfold mlen; simp
      refine ⟨by show 1 ≤ x.y + 1; omega, ?_, by show (1 : Int) ≤ 1; omega, by show (1 : Int) ≤ 12; omega, by show (1 : Int) ≤ 1; omega, by have := mlen_ge (x.y + 1) 1; show 1 ≤ mlen (x.y + 1) 1; omega⟩
      show x.y + 1 ≤ 9999
      by_cases hy : x.y = 9999
      · exact absurd ⟨hy, e, by omega⟩ hx
      · omega
/-- the day after -/
theorem civ_next {n : Int} (h0 : -719162 ≤ n) (h1 : n < 2932896) : civL (n + 1) = nextD (civL n) := by
  rw [civL_in ⟨by omega, by omega⟩, civL_in ⟨h0, by omega⟩]
  have ho := civ_ok (z := n + 719468) (by omega) (by omega)
  have hc := cnt_civ (n + 719468)
  have hn := cnt_next ho
  have ho2 := okD_next ho (by omega)
  have := civ_cnt ho2
  rw [hn, hc] at this
  rw [← this]
  congr 1
  omega
end Dt
