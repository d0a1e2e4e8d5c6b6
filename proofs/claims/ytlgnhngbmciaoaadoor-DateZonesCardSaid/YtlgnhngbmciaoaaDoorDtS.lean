/- Plain: dates: what the laws on days, years and zones say. -/
import Derived.Test.YtlgnhngbmciaoaaDoorDtR
namespace Dt

theorem civ_day {n : Int} (h0 : -719162 ≤ n) (h1 : n ≤ 2932896) : okD (civL n) ∧ daysL (civL n).y (civL n).m (civL n).d = n := by
  rw [civL_in ⟨h0, h1⟩]
  have ho := civ_ok (z := n + 719468) (by omega) (by omega)
  refine ⟨ho, ?_⟩
  rw [days_ok ho, cnt_civ]; omega
theorem civ_none {n : Int} (h : n < -719162 ∨ 2932896 < n) : civL n = ⟨0, 0, 0⟩ := civL_out (by omega)
/-- the day after, as the law asks -/
theorem next_cases (x : D) : (x.d < mlen x.y x.m ∧ nextD x = ⟨x.y, x.m, x.d + 1⟩) ∨ (¬ x.d < mlen x.y x.m ∧ x.m < 12 ∧ nextD x = ⟨x.y, x.m + 1, 1⟩) ∨ (¬ x.d < mlen x.y x.m ∧ ¬ x.m < 12 ∧ nextD x = ⟨x.y + 1, 1, 1⟩) := by
  unfold nextD
  by_cases h : x.d < mlen x.y x.m
  · rw [if_pos h]; exact .inl ⟨h, rfl⟩
  · rw [if_neg h]
    by_cases h2 : x.m < 12
    · rw [if_pos h2]; exact .inr (.inl ⟨h, h2, rfl⟩)
    · rw [if_neg h2]; exact .inr (.inr ⟨h, h2, rfl⟩)
theorem over_none {y m d : Int} (h : ¬ d < mlen y m) : daysL y m (d + 1) = 0 := days_bad (fun ⟨_, _, _, _, _, h6⟩ => by have h6 : d + 1 ≤ mlen y m := h6; omega)
theorem wk_rng (n : Int) : 0 ≤ wkL n ∧ wkL n ≤ 6 := by unfold wkL; omega
theorem wk_next (n : Int) : wkL (n + 1) = (wkL n + 1) % 7 := by unfold wkL; omega
/-! years -/
theorem ok_of {y m d : Int} (h0 : 1 ≤ y) (h1 : y ≤ 9999) (h2 : 1 ≤ m) (h3 : m ≤ 12) (h4 : 1 ≤ d) (h5 : d ≤ mlen y m) : okD ⟨y, m, d⟩ := ⟨h0, h1, h2, h3, h4, h5⟩
theorem month_go {y m d : Int} (h0 : 1 ≤ y) (h1 : y ≤ 9999) (h2 : 1 ≤ m) (h3 : m ≤ 12) (h4 : 1 ≤ d) (h5 : d ≤ mlen y m) (h31 : d < 31) : (daysL y m (d + 1) == daysL y m d + 1) = decide (d < mlen y m) := by
  have ho := ok_of h0 h1 h2 h3 h4 h5
  have e := days_ok ho
  simp only at e
  rw [e]
  by_cases h : d < mlen y m
  · have ho2 := ok_of h0 h1 h2 h3 (d := d + 1) (by omega) (by omega)
    have e2 := days_ok ho2
    simp only at e2
    rw [e2, decide_eq_true h, cnt_Y, cnt_Y]
    unfold insD
    rw [beq_iff_eq]; omega
  · rw [over_none h, decide_eq_false h]
    rw [beq_eq_false_iff_ne]
    intro hc
    have hz : cntL y m d + 719468 = 719467 := by omega
    have := civ_cnt ho
    simp only at this
    rw [hz] at this
    have e3 : civO 719467 = ⟨1969, 12, 31⟩ := by decide +kernel
    rw [e3] at this
    injection this with a b c
    omega
def ms (y : Int) : Nat → Int
  | 0 => 0
  | k + 1 => ms y k + mlen y ((k : Int) + 1)
theorem ms_12 (y : Int) : ms y 12 = if leapB y = true then 366 else 365 := by
  have e : ∀ m : Int, m ≠ 2 → mlen y m = if m = 4 ∨ m = 6 ∨ m = 9 ∨ m = 11 then 30 else 31 := fun m h => by unfold mlen; rw [if_neg h]
  have e2 : mlen y 2 = if leapB y = true then 29 else 28 := by unfold mlen; rw [if_pos rfl]
  simp only [ms]
  have f1 : mlen y ((0 : Nat) + 1) = 31 := by rw [e _ (by decide)]; rfl
  have f2 : mlen y ((1 : Nat) + 1) = if leapB y = true then 29 else 28 := e2
  have f3 : mlen y ((2 : Nat) + 1) = 31 := by rw [e _ (by decide)]; rfl
  have f4 : mlen y ((3 : Nat) + 1) = 30 := by rw [e _ (by decide)]; rfl
  have f5 : mlen y ((4 : Nat) + 1) = 31 := by rw [e _ (by decide)]; rfl
  have f6 : mlen y ((5 : Nat) + 1) = 30 := by rw [e _ (by decide)]; rfl
  have f7 : mlen y ((6 : Nat) + 1) = 31 := by rw [e _ (by decide)]; rfl
  have f8 : mlen y ((7 : Nat) + 1) = 31 := by rw [e _ (by decide)]; rfl
  have f9 : mlen y ((8 : Nat) + 1) = 30 := by rw [e _ (by decide)]; rfl
  have f10 : mlen y ((9 : Nat) + 1) = 31 := by rw [e _ (by decide)]; rfl
  have f11 : mlen y ((10 : Nat) + 1) = 30 := by rw [e _ (by decide)]; rfl
  have f12 : mlen y ((11 : Nat) + 1) = 31 := by rw [e _ (by decide)]; rfl
  rw [f1, f2, f3, f4, f5, f6, f7, f8, f9, f10, f11, f12]
  split <;> rfl
theorem year_diff {y : Int} (h0 : 1 ≤ y) (h1 : y ≤ 9998) : daysL (y + 1) 1 1 - daysL y 1 1 = if leapB y = true then 366 else 365 := by
  have a := days_ok (ok_of (y := y + 1) (m := 1) (d := 1) (by omega) (by omega) (by omega) (by omega) (by omega) (by have := mlen_ge (y + 1) 1; omega))
  have b := days_ok (ok_of (y := y) (m := 1) (d := 1) (by omega) (by omega) (by omega) (by omega) (by omega) (by have := mlen_ge y 1; omega))
  simp only at a b
  rw [a, b, cnt_Y, cnt_Y]
  have y1 : yM (y + 1) 1 = y - 1 + 1 := by unfold yM; rw [if_pos (by decide)]; omega
  have y2 : yM y 1 = y - 1 := by unfold yM; rw [if_pos (by decide)]
  rw [y1, y2, cntY_step]
  unfold ylen
  have y3 : y - 1 + 1 = y := by omega
  rw [y3]
  split <;> omega
theorem week_400 {y m : Int} (h0 : 1 ≤ y) (h1 : y ≤ 9599) (h2 : 1 ≤ m) (h3 : m ≤ 12) : wkL (daysL (y + 400) m 1) = wkL (daysL y m 1) := by
  have a := days_ok (ok_of (y := y + 400) (m := m) (d := 1) (by omega) (by omega) h2 h3 (by omega) (by have := mlen_ge (y + 400) m; omega))
  have b := days_ok (ok_of (y := y) (m := m) (d := 1) (by omega) (by omega) h2 h3 (by omega) (by have := mlen_ge y m; omega))
  simp only at a b
  rw [a, b, cnt_eq, cnt_eq]
  have e : yM (y + 400) m = yM y m + 400 := by unfold yM; split <;> omega
  have e1 : (yM y m + 400) % 400 = yM y m % 400 := by omega
  have e2 : (yM y m + 400) / 400 = yM y m / 400 + 1 := by omega
  rw [e, e1, e2]
  unfold wkL
  omega
/-! the local time -/
def rightL (u z : Int) : Bool := decide (-62135596800 ≤ u) && (decide (u ≤ 253402300799) && (decide (-1439 ≤ z) && decide (z ≤ 1439)))
def locD (u z : Int) : Int := (u + 60 * z) / 86400
def locS (u z : Int) : Int := (u + 60 * z) % 86400
def partL (u z what : Int) : Int := if rightL u z = true then (if what = 1 then (civL (locD u z)).y else if what = 2 then (civL (locD u z)).m else if what = 3 then (civL (locD u z)).d else if what = 4 then locS u z / 3600 else if what = 5 then locS u z / 60 % 60 else if what = 6 then locS u z % 60 else if what = 7 then wkL (locD u z) else if what = 8 then z else 0) else 0
theorem right_iff (u z : Int) : rightL u z = true ↔ -62135596800 ≤ u ∧ u ≤ 253402300799 ∧ -1439 ≤ z ∧ z ≤ 1439 := by unfold rightL; simp
theorem secs (u z : Int) : 3600 * (locS u z / 3600) + 60 * (locS u z / 60 % 60) + locS u z % 60 = locS u z ∧ 0 ≤ locS u z ∧ locS u z < 86400 := by unfold locS; omega
end Dt
