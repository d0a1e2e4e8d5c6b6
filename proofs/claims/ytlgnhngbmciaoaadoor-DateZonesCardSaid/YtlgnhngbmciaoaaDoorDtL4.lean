/- Walks: the law DateZones. -/
import Derived.Test.YtlgnhngbmciaoaaDoorDtS7
namespace Go.Proofs.YtlgnhngbmciaoaaDoor
open Go.RowKit Pk Dt
attribute [local go_sem ↓] Go.wp_at_zero Go.wp_at_succ

/-- two times that lie in memory -/
structure Z4 (w0 W : World) (b b' : Nat) (u z u' z' : Int) : Prop where
  bel : Below w0.heap.size w0 W
  c0 : W.cell? ⟨b, 0, none⟩ = some (.int .i64 u)
  c1 : W.cell? ⟨b, 1, none⟩ = some (.int .i64 z)
  d0 : W.cell? ⟨b', 0, none⟩ = some (.int .i64 u')
  d1 : W.cell? ⟨b', 1, none⟩ = some (.int .i64 z')
theorem Z4.later {w0 W W' : World} {b b' : Nat} {u z u' z' : Int} (h : Z4 w0 W b b' u z u' z') (hb : Below W.heap.size W W') : Z4 w0 W' b b' u z u' z' :=
  ⟨h.bel.trans (hb.mono h.bel.size), laterC hb h.c0, laterC hb h.c1, laterC hb h.d0, laterC hb h.d1⟩
theorem Z4.drew {w0 W : World} {b b' : Nat} {u z u' z' : Int} (h : Z4 w0 W b b' u z u' z') : Z4 w0 W.drew b b' u z u' z' := h.later (Below.refl _ _).drew
theorem Z4.next {w0 W W' : World} {b b' : Nat} {u z u' z' u2 z2 : Int} (h : Z4 w0 W b b' u z u' z') (hb : Below (W.alloc (.cells #[.int .i64 u2, .int .i64 z2] 23)).heap.size (W.alloc (.cells #[.int .i64 u2, .int .i64 z2] 23)) W') : Z4 w0 W' b W.heap.size u z u2 z2 :=
  have ha := (Below.refl W.heap.size W).alloc (Nat.le_refl _) (.cells #[.int .i64 u2, .int .i64 z2] 23)
  have hl := h.later ha
  ⟨hl.bel.trans (hb.mono hl.bel.size), laterC hb hl.c0, laterC hb hl.c1, laterC hb (by simp), laterC hb (by simp)⟩
/-- the plain part: what the zones and the days do -/
theorem zone_shift (u z y : Int) : (locS u z - 60 * z - locS u y + 60 * y).tmod 86400 = 0 := by
  have e : locS u z - 60 * z - locS u y + 60 * y = 86400 * (locD u y - locD u z) := by unfold locS locD; omega
  rw [e]
  exact Int.mul_tmod_right _ _
theorem later_loc (u z n : Int) : locD (u + 86400 * n) z = locD u z + n ∧ locS (u + 86400 * n) z = locS u z := by unfold locS locD; omega
theorem year_locD {u z : Int} (hr : rightL u z = true) (hy : partL u z 1 ≠ 0) : daysL (partL u z 1) (partL u z 2) (partL u z 3) = locD u z := by
  have hin := (year_in hr).1 hy
  have p2 : partL u z 2 = (civL (locD u z)).m := by unfold partL; rw [if_pos hr]; rfl
  have p3 : partL u z 3 = (civL (locD u z)).d := by unfold partL; rw [if_pos hr]; rfl
  rw [part_year hr, p2, p3]
  exact (civ_day hin.1 hin.2).2
set_option maxHeartbeats 4000000 in
set_option maxRecDepth 100000 in
theorem zones_wrong (u z zone days : Int) (w : World) (h : Rd7 w) (hr : rightL u z = false) : Calls Tryd.prog 5 #[.agg #[.int .i64 u, .int .i64 z], .int .i64 zone, .int .i64 days] w (Truth7 w) := by
  have hS := small7_any (w.alloc (.cells #[.int .i64 u, .int .i64 z] 23)) (h.late ((Below.refl _ _).alloc (Nat.le_refl _) _))
  unfold Truth7 at hS ⊢
  have HS := Lib.hid hS
  have hb0 : Below w.heap.size w (w.alloc (.cells #[.int .i64 u, .int .i64 z] 23)) := (Below.refl _ _).alloc (Nat.le_refl _) _
  have HB0 := Lib.hid hb0
  have c0 : (w.alloc (.cells #[.int .i64 u, .int .i64 z] 23)).cell? ⟨w.heap.size, 0, none⟩ = some (.int .i64 u) := by simp
  have c1 : (w.alloc (.cells #[.int .i64 u, .int .i64 z] 23)).cell? ⟨w.heap.size, 1, none⟩ = some (.int .i64 z) := by simp
  have hR1 := fun w => right_any u z w
  have hR2 := fun w => right_any u zone w
  rw [hr] at hR1
  have HR1 := Lib.hid hR1
  have HR2 := Lib.hid hR2
  have tb := Below.refl (w.alloc (.cells #[.int .i64 u, .int .i64 z] 23)).heap.size (w.alloc (.cells #[.int .i64 u, .int .i64 z] 23))
  clear hS hb0 h hR1 hR2
  clear hr
  go_enter Tryd.func5, Tryd.ntmps5
  go_wp2_with (first
    | (go_at_call 7; (with_reducible refine HS.out.mono ?_); rintro e w1 ⟨rfl, hb1⟩; have tb := tb.trans (hb1.mono tb.size); have c0 := laterC hb1 c0; have c1 := laterC hb1 c1; have c0n := laterA (.cells #[.int .i64 u, .int .i64 zone] 23) c0; have c1n := laterA (.cells #[.int .i64 u, .int .i64 zone] 23) c1; have tb := tb.alloc tb.size (.cells #[.int .i64 u, .int .i64 zone] 23))
    | (go_at_call 10; (with_reducible refine (HR1.out _).mono ?_); rintro e w2 ⟨rfl, hb2⟩; have tb := tb.trans (hb2.mono tb.size); have c2 := laterC hb2 (show (w1.alloc (.cells #[.int .i64 u, .int .i64 zone] 23)).cell? ⟨w1.heap.size, 0, none⟩ = some (.int .i64 u) by simp); have c3 := laterC hb2 (show (w1.alloc (.cells #[.int .i64 u, .int .i64 zone] 23)).cell? ⟨w1.heap.size, 1, none⟩ = some (.int .i64 zone) by simp)))
  go_ret
  exact ⟨rfl, HB0.out.trans (tb.mono HB0.out.size)⟩
set_option maxHeartbeats 4000000 in
set_option maxRecDepth 100000 in
theorem zones_wrong2 (u z zone days : Int) (w : World) (h : Rd7 w) (hr : rightL u z = true) (hr2 : rightL u zone = false) : Calls Tryd.prog 5 #[.agg #[.int .i64 u, .int .i64 z], .int .i64 zone, .int .i64 days] w (Truth7 w) := by
  have hS := small7_any (w.alloc (.cells #[.int .i64 u, .int .i64 z] 23)) (h.late ((Below.refl _ _).alloc (Nat.le_refl _) _))
  unfold Truth7 at hS ⊢
  have HS := Lib.hid hS
  have hb0 : Below w.heap.size w (w.alloc (.cells #[.int .i64 u, .int .i64 z] 23)) := (Below.refl _ _).alloc (Nat.le_refl _) _
  have HB0 := Lib.hid hb0
  have c0 : (w.alloc (.cells #[.int .i64 u, .int .i64 z] 23)).cell? ⟨w.heap.size, 0, none⟩ = some (.int .i64 u) := by simp
  have c1 : (w.alloc (.cells #[.int .i64 u, .int .i64 z] 23)).cell? ⟨w.heap.size, 1, none⟩ = some (.int .i64 z) := by simp
  have hR1 := fun w => right_any u z w
  have hR2 := fun w => right_any u zone w
  rw [hr] at hR1
  rw [hr2] at hR2
  have HR1 := Lib.hid hR1
  have HR2 := Lib.hid hR2
  have tb := Below.refl (w.alloc (.cells #[.int .i64 u, .int .i64 z] 23)).heap.size (w.alloc (.cells #[.int .i64 u, .int .i64 z] 23))
  clear hS hb0 h hR1 hR2
  clear hr hr2
  go_enter Tryd.func5, Tryd.ntmps5
  go_wp2_with (first
    | (go_at_call 7; (with_reducible refine HS.out.mono ?_); rintro e w1 ⟨rfl, hb1⟩; have tb := tb.trans (hb1.mono tb.size); have c0 := laterC hb1 c0; have c1 := laterC hb1 c1; have c0n := laterA (.cells #[.int .i64 u, .int .i64 zone] 23) c0; have c1n := laterA (.cells #[.int .i64 u, .int .i64 zone] 23) c1; have tb := tb.alloc tb.size (.cells #[.int .i64 u, .int .i64 zone] 23))
    | (go_at_call 10; (with_reducible refine (HR1.out _).mono ?_); rintro e w2 ⟨rfl, hb2⟩; have tb := tb.trans (hb2.mono tb.size); have c2 := laterC hb2 (show (w1.alloc (.cells #[.int .i64 u, .int .i64 zone] 23)).cell? ⟨w1.heap.size, 0, none⟩ = some (.int .i64 u) by simp); have c3 := laterC hb2 (show (w1.alloc (.cells #[.int .i64 u, .int .i64 zone] 23)).cell? ⟨w1.heap.size, 1, none⟩ = some (.int .i64 zone) by simp))
    | (go_at_call 10; (with_reducible refine (HR2.out _).mono ?_); rintro e w3 ⟨rfl, hb3⟩; have tb := tb.trans (hb3.mono tb.size)))
  go_ret
  exact ⟨rfl, HB0.out.trans (tb.mono HB0.out.size)⟩
set_option maxHeartbeats 4000000 in
set_option maxRecDepth 100000 in
theorem zones_days (u z zone days : Int) (w : World) (h : Rd7 w) (hr : rightL u z = true) (hr2 : rightL u zone = true) (hd : days < 0 ∨ 3000 < days) : Calls Tryd.prog 5 #[.agg #[.int .i64 u, .int .i64 z], .int .i64 zone, .int .i64 days] w (Truth7 w) := by
  have hS := small7_any (w.alloc (.cells #[.int .i64 u, .int .i64 z] 23)) (h.late ((Below.refl _ _).alloc (Nat.le_refl _) _))
  unfold Truth7 at hS ⊢
  have HS := Lib.hid hS
  have hb0 : Below w.heap.size w (w.alloc (.cells #[.int .i64 u, .int .i64 z] 23)) := (Below.refl _ _).alloc (Nat.le_refl _) _
  have HB0 := Lib.hid hb0
  have c0 : (w.alloc (.cells #[.int .i64 u, .int .i64 z] 23)).cell? ⟨w.heap.size, 0, none⟩ = some (.int .i64 u) := by simp
  have c1 : (w.alloc (.cells #[.int .i64 u, .int .i64 z] 23)).cell? ⟨w.heap.size, 1, none⟩ = some (.int .i64 z) := by simp
  have hR1 := fun w => right_any u z w
  have hR2 := fun w => right_any u zone w
  rw [hr] at hR1
  rw [hr2] at hR2
  have HR1 := Lib.hid hR1
  have HR2 := Lib.hid hR2
  have tb := Below.refl (w.alloc (.cells #[.int .i64 u, .int .i64 z] 23)).heap.size (w.alloc (.cells #[.int .i64 u, .int .i64 z] 23))
  clear hS hb0 h hR1 hR2
  clear hr hr2
  rcases hd with hd | hd
  · have q1 : decide (days < 0) = true := decide_eq_true hd
    go_enter Tryd.func5, Tryd.ntmps5
    go_wp2_with (first
      | (go_at_call 7; (with_reducible refine HS.out.mono ?_); rintro e w1 ⟨rfl, hb1⟩; have tb := tb.trans (hb1.mono tb.size); have c0 := laterC hb1 c0; have c1 := laterC hb1 c1; have c0n := laterA (.cells #[.int .i64 u, .int .i64 zone] 23) c0; have c1n := laterA (.cells #[.int .i64 u, .int .i64 zone] 23) c1; have tb := tb.alloc tb.size (.cells #[.int .i64 u, .int .i64 zone] 23))
      | (go_at_call 10; (with_reducible refine (HR1.out _).mono ?_); rintro e w2 ⟨rfl, hb2⟩; have tb := tb.trans (hb2.mono tb.size); have c2 := laterC hb2 (show (w1.alloc (.cells #[.int .i64 u, .int .i64 zone] 23)).cell? ⟨w1.heap.size, 0, none⟩ = some (.int .i64 u) by simp); have c3 := laterC hb2 (show (w1.alloc (.cells #[.int .i64 u, .int .i64 zone] 23)).cell? ⟨w1.heap.size, 1, none⟩ = some (.int .i64 zone) by simp))
      | (go_at_call 10; (with_reducible refine (HR2.out _).mono ?_); rintro e w3 ⟨rfl, hb3⟩; have tb := tb.trans (hb3.mono tb.size)))
    go_ret
    exact ⟨rfl, HB0.out.trans (tb.mono HB0.out.size)⟩
  · have q1 : decide (days < 0) = false := decide_eq_false (by omega)
    have q2 : decide (3000 < days) = true := decide_eq_true hd
    go_enter Tryd.func5, Tryd.ntmps5
    go_wp2_with (first
      | (go_at_call 7; (with_reducible refine HS.out.mono ?_); rintro e w1 ⟨rfl, hb1⟩; have tb := tb.trans (hb1.mono tb.size); have c0 := laterC hb1 c0; have c1 := laterC hb1 c1; have c0n := laterA (.cells #[.int .i64 u, .int .i64 zone] 23) c0; have c1n := laterA (.cells #[.int .i64 u, .int .i64 zone] 23) c1; have tb := tb.alloc tb.size (.cells #[.int .i64 u, .int .i64 zone] 23))
      | (go_at_call 10; (with_reducible refine (HR1.out _).mono ?_); rintro e w2 ⟨rfl, hb2⟩; have tb := tb.trans (hb2.mono tb.size); have c2 := laterC hb2 (show (w1.alloc (.cells #[.int .i64 u, .int .i64 zone] 23)).cell? ⟨w1.heap.size, 0, none⟩ = some (.int .i64 u) by simp); have c3 := laterC hb2 (show (w1.alloc (.cells #[.int .i64 u, .int .i64 zone] 23)).cell? ⟨w1.heap.size, 1, none⟩ = some (.int .i64 zone) by simp))
      | (go_at_call 10; (with_reducible refine (HR2.out _).mono ?_); rintro e w3 ⟨rfl, hb3⟩; have tb := tb.trans (hb3.mono tb.size)))
    go_ret
    exact ⟨rfl, HB0.out.trans (tb.mono HB0.out.size)⟩
set_option maxHeartbeats 8000000 in
set_option maxRecDepth 100000 in
theorem zones_main (u z zone days : Int) (w : World) (h : Rd7 w) (hr : rightL u z = true) (hr2 : rightL u zone = true) (hd0 : 0 ≤ days) (hd1 : days ≤ 3000) : Calls Tryd.prog 5 #[.agg #[.int .i64 u, .int .i64 z], .int .i64 zone, .int .i64 days] w (Truth7 w) := by
  have hS := small7_any (w.alloc (.cells #[.int .i64 u, .int .i64 z] 23)) (h.late ((Below.refl _ _).alloc (Nat.le_refl _) _))
  unfold Truth7 at hS ⊢
  have HS := Lib.hid hS
  have hb0 : Below w.heap.size w (w.alloc (.cells #[.int .i64 u, .int .i64 z] 23)) := (Below.refl _ _).alloc (Nat.le_refl _) _
  have HB0 := Lib.hid hb0
  have c0 : (w.alloc (.cells #[.int .i64 u, .int .i64 z] 23)).cell? ⟨w.heap.size, 0, none⟩ = some (.int .i64 u) := by simp
  have c1 : (w.alloc (.cells #[.int .i64 u, .int .i64 z] 23)).cell? ⟨w.heap.size, 1, none⟩ = some (.int .i64 z) := by simp
  have hR1 := fun w => right_any u z w
  have hR2 := fun w => right_any u zone w
  rw [hr] at hR1
  rw [hr2] at hR2
  obtain ⟨i1, i2, i3, i4⟩ := (right_iff u z).1 hr
  obtain ⟨-, -, i5, i6⟩ := (right_iff u zone).1 hr2
  have hP4 := fun w => part4_any u z w
  have hP5 := fun w => part5_any u z w
  have hP6 := fun w => part6_any u z w
  have hP7 := fun w => part7_any u z w
  have hP8 := fun w => part8_any u z w
  have hQ4 := fun w => part4_any u zone w
  have hQ5 := fun w => part5_any u zone w
  have hQ6 := fun w => part6_any u zone w
  have p4 : partL u z 4 = locS u z / 3600 := by unfold partL; rw [if_pos hr]; rfl
  have p5 : partL u z 5 = locS u z / 60 % 60 := by unfold partL; rw [if_pos hr]; rfl
  have p6 : partL u z 6 = locS u z % 60 := by unfold partL; rw [if_pos hr]; rfl
  have p7 : partL u z 7 = wkL (locD u z) := by unfold partL; rw [if_pos hr]; rfl
  have p8 : partL u z 8 = z := by unfold partL; rw [if_pos hr]; rfl
  have x4 : partL u zone 4 = locS u zone / 3600 := by unfold partL; rw [if_pos hr2]; rfl
  have x5 : partL u zone 5 = locS u zone / 60 % 60 := by unfold partL; rw [if_pos hr2]; rfl
  have x6 : partL u zone 6 = locS u zone % 60 := by unfold partL; rw [if_pos hr2]; rfl
  obtain ⟨s1, s2, s3⟩ := secs u z
  obtain ⟨s4, s5, s6⟩ := secs u zone
  have hsh := zone_shift u z zone
  have hloc : 86400 * locD u z + locS u z - 60 * z = u := by unfold locS locD; omega
  have hND : -1000000 ≤ locD u z ∧ locD u z ≤ 4000000 := by unfold locD; omega
  obtain ⟨U2, hU2⟩ : ∃ U2, U2 = u + 86400 * days := ⟨_, rfl⟩
  obtain ⟨l1, l2⟩ := later_loc u z days
  rw [← hU2] at l1 l2
  have hV1 := fun w => right_any U2 z w
  have hY1 := fun w => part1_any u z w
  have hY2 := fun w => part2_any u z w
  have hY3 := fun w => part3_any u z w
  have hM1 := fun w => part1_any U2 z w
  have hM2 := fun w => part2_any U2 z w
  have hM3 := fun w => part3_any U2 z w
  have hM4 := fun w => part4_any U2 z w
  have r4 : rightL U2 z = true → partL U2 z 4 = locS u z / 3600 := fun hh => by unfold partL; rw [if_pos hh, ← l2]; rfl
  have hone : partL u z 1 ≠ 0 → daysL (partL u z 1) (partL u z 2) (partL u z 3) = locD u z := fun hy => year_locD hr hy
  have htwo : rightL U2 z = true → partL U2 z 1 ≠ 0 → daysL (partL U2 z 1) (partL U2 z 2) (partL U2 z 3) = locD u z + days := fun hh hy => (year_locD hh hy).trans l1
  have hDn := fun w => days_any (partL u z 1) (partL u z 2) (partL u z 3) w
  have hDm := fun w => days_any (partL U2 z 1) (partL U2 z 2) (partL U2 z 3) w
  have hK7 := fun w => week_any (locD u z) w (by omega) (by omega)
  rw [p4] at hP4
  rw [p5] at hP5
  rw [p6] at hP6
  rw [p7] at hP7
  rw [p8] at hP8
  rw [x4] at hQ4
  rw [x5] at hQ5
  rw [x6] at hQ6
  clear p4 p5 p6 p7 p8 x4 x5 x6 l1 l2
  have g1 : 0 ≤ locS u z / 3600 ∧ locS u z / 3600 ≤ 23 := by omega
  have g2 : 0 ≤ locS u z / 60 % 60 ∧ locS u z / 60 % 60 ≤ 59 := by omega
  have g3 : 0 ≤ locS u z % 60 ∧ locS u z % 60 ≤ 59 := by omega
  have g4 : 0 ≤ locS u zone / 3600 ∧ locS u zone / 3600 ≤ 23 := by omega
  have g5 : 0 ≤ locS u zone / 60 % 60 ∧ locS u zone / 60 % 60 ≤ 59 := by omega
  have g6 : 0 ≤ locS u zone % 60 ∧ locS u zone % 60 ≤ 59 := by omega
  generalize locS u z / 3600 = a4 at *
  generalize locS u z / 60 % 60 = a5 at *
  generalize locS u z % 60 = a6 at *
  generalize locS u zone / 3600 = b4 at *
  generalize locS u zone / 60 % 60 = b5 at *
  generalize locS u zone % 60 = b6 at *
  generalize locS u z = A at *
  generalize locS u zone = B at *
  generalize locD u z = N at *
  generalize wkL N = WK at *
  obtain ⟨X1, e1⟩ : ∃ X, 3600 * a4 = X := ⟨_, rfl⟩
  obtain ⟨X2, e2⟩ : ∃ X, 60 * a5 = X := ⟨_, rfl⟩
  obtain ⟨X3, e3⟩ : ∃ X, X1 + X2 = X := ⟨_, rfl⟩
  have e4 : X3 + a6 = A := by omega
  obtain ⟨Y1, f1⟩ : ∃ X, 3600 * b4 = X := ⟨_, rfl⟩
  obtain ⟨Y2, f2⟩ : ∃ X, 60 * b5 = X := ⟨_, rfl⟩
  obtain ⟨Y3, f3⟩ : ∃ X, Y1 + Y2 = X := ⟨_, rfl⟩
  have f4 : Y3 + b6 = B := by omega
  obtain ⟨Z6, k1⟩ : ∃ X, 60 * z = X := ⟨_, rfl⟩
  obtain ⟨R1, k2⟩ : ∃ X, A - Z6 = X := ⟨_, rfl⟩
  obtain ⟨R2, k3⟩ : ∃ X, R1 - B = X := ⟨_, rfl⟩
  obtain ⟨Z7, k4⟩ : ∃ X, 60 * zone = X := ⟨_, rfl⟩
  obtain ⟨R3, k5⟩ : ∃ X, R2 + Z7 = X := ⟨_, rfl⟩
  have hR3 : A - 60 * z - B + 60 * zone = R3 := by omega
  rw [hR3] at hsh
  obtain ⟨D8, k6⟩ : ∃ X, 86400 * days = X := ⟨_, rfl⟩
  have k7 : u + D8 = U2 := by omega
  obtain ⟨M1, k8⟩ : ∃ X, 86400 * N = X := ⟨_, rfl⟩
  obtain ⟨M2, k9⟩ : ∃ X, M1 + A = X := ⟨_, rfl⟩
  have k10 : M2 - Z6 = u := by omega
  obtain ⟨N2, k11⟩ : ∃ X, X = N + days := ⟨_, rfl⟩
  have k12 : N2 - N = days := by omega
  rw [← k11] at htwo
  generalize rightL U2 z = rt2 at *
  generalize partL u z 1 = y1 at *
  generalize partL u z 2 = y2 at *
  generalize partL u z 3 = y3 at *
  generalize daysL y1 y2 y3 = DN at *
  generalize partL U2 z 1 = m1 at *
  generalize partL U2 z 2 = m2 at *
  generalize partL U2 z 3 = m3 at *
  generalize daysL m1 m2 m3 = DM at *
  generalize partL U2 z 4 = H4 at *
  have oX1 : IntKind.i64.wrap X1 = X1 := w64 rfl (by omega) (by omega)
  have oX2 : IntKind.i64.wrap X2 = X2 := w64 rfl (by omega) (by omega)
  have oX3 : IntKind.i64.wrap X3 = X3 := w64 rfl (by omega) (by omega)
  have oA : IntKind.i64.wrap A = A := w64 rfl (by omega) (by omega)
  have oY1 : IntKind.i64.wrap Y1 = Y1 := w64 rfl (by omega) (by omega)
  have oY2 : IntKind.i64.wrap Y2 = Y2 := w64 rfl (by omega) (by omega)
  have oY3 : IntKind.i64.wrap Y3 = Y3 := w64 rfl (by omega) (by omega)
  have oB : IntKind.i64.wrap B = B := w64 rfl (by omega) (by omega)
  have oZ6 : IntKind.i64.wrap Z6 = Z6 := w64 rfl (by omega) (by omega)
  have oR1 : IntKind.i64.wrap R1 = R1 := w64 rfl (by omega) (by omega)
  have oR2 : IntKind.i64.wrap R2 = R2 := w64 rfl (by omega) (by omega)
  have oZ7 : IntKind.i64.wrap Z7 = Z7 := w64 rfl (by omega) (by omega)
  have oR3 : IntKind.i64.wrap R3 = R3 := w64 rfl (by omega) (by omega)
  have oD8 : IntKind.i64.wrap D8 = D8 := w64 rfl (by omega) (by omega)
  have oU2 : IntKind.i64.wrap U2 = U2 := w64 rfl (by omega) (by omega)
  have oM1 : IntKind.i64.wrap M1 = M1 := w64 rfl (by omega) (by omega)
  have oM2 : IntKind.i64.wrap M2 = M2 := w64 rfl (by omega) (by omega)
  have ou : IntKind.i64.wrap u = u := w64 rfl (by omega) (by omega)
  have odays : IntKind.i64.wrap days = days := w64 rfl (by omega) (by omega)
  have oN2 : IntKind.i64.wrap N2 = N2 := w64 rfl (by omega) (by omega)
  have q1 : decide (days < 0) = false := decide_eq_false (by omega)
  have q2 : decide (3000 < days) = false := decide_eq_false (by omega)
  have q3 : decide (A < 0) = false := decide_eq_false (by omega)
  have q4 : decide (86400 ≤ A) = false := decide_eq_false (by omega)
  have hzz : (z != z) = false := by rw [bne, beq_iff_eq.2 rfl]; rfl
  clear hR3 hloc s1 s4 k11 hU2 hr hr2
  have HP4 := Lib.hid hP4
  have HP5 := Lib.hid hP5
  have HP6 := Lib.hid hP6
  have HP7 := Lib.hid hP7
  have HP8 := Lib.hid hP8
  have HQ4 := Lib.hid hQ4
  have HQ5 := Lib.hid hQ5
  have HQ6 := Lib.hid hQ6
  have HV1 := Lib.hid hV1
  have HY1 := Lib.hid hY1
  have HY2 := Lib.hid hY2
  have HY3 := Lib.hid hY3
  have HM1 := Lib.hid hM1
  have HM2 := Lib.hid hM2
  have HM3 := Lib.hid hM3
  have HM4 := Lib.hid hM4
  have HDn := Lib.hid hDn
  have HDm := Lib.hid hDm
  have HK7 := Lib.hid hK7
  have HONE := Lib.hid hone
  have HTWO := Lib.hid htwo
  have HR4 := Lib.hid r4
  have HR1 := Lib.hid hR1
  have HR2 := Lib.hid hR2
  have tb := Below.refl (w.alloc (.cells #[.int .i64 u, .int .i64 z] 23)).heap.size (w.alloc (.cells #[.int .i64 u, .int .i64 z] 23))
  clear hone htwo r4 hP4 hP5 hP6 hP7 hP8 hQ4 hQ5 hQ6 hV1 hY1 hY2 hY3 hM1 hM2 hM3 hM4 hDn hDm hK7 hS hb0 h hR1 hR2
  go_enter Tryd.func5, Tryd.ntmps5
  generalize hw0 : w.alloc (.cells #[.int .i64 u, .int .i64 z] 23) = w0 at *
  go_wp2_with (first
    | (go_at_call 7; (with_reducible refine HS.out.mono ?_); rintro e w1 ⟨rfl, hb1⟩; have c0 := laterC hb1 c0; have c1 := laterC hb1 c1; have HK : Z4 w0 (w1.alloc (.cells #[.int .i64 u, .int .i64 zone] 23)) w.heap.size w1.heap.size u z u zone := ⟨(tb.trans (hb1.mono tb.size)).alloc (hb1.mono tb.size).size _, laterA _ c0, laterA _ c1, by simp, by simp⟩; have c0 := HK.c0; have c1 := HK.c1; have d0 := HK.d0; have d1 := HK.d1)
    | (go_at_call 10; (with_reducible refine (HR1.out _).mono ?_); rintro e w2 ⟨rfl, hb2⟩; have HK : Z4 w0 w2 w.heap.size w1.heap.size u z u zone := (by first | exact HK.later hb2 | exact HK.drew.later hb2); have c0 := HK.c0; have c1 := HK.c1; have d0 := HK.d0; have d1 := HK.d1)
    | (go_at_call 10; (with_reducible refine (HR2.out _).mono ?_); rintro e w21 ⟨rfl, hb21⟩; have HK : Z4 w0 w21 w.heap.size w1.heap.size u z u zone := (by first | exact HK.later hb21 | exact HK.drew.later hb21); have c0 := HK.c0; have c1 := HK.c1; have d0 := HK.d0; have d1 := HK.d1))
  go_region_held3 (fun W => W.cell? ⟨w.heap.size, 0, none⟩ = some (.int .i64 u) ∧ W.cell? ⟨w.heap.size, 1, none⟩ = some (.int .i64 z) ∧ W.cell? ⟨w1.heap.size, 0, none⟩ = some (.int .i64 u) ∧ W.cell? ⟨w1.heap.size, 1, none⟩ = some (.int .i64 zone)) (first | exact ⟨by assumption, by assumption, by assumption, by assumption⟩ | exact ⟨HK.drew.c0, HK.drew.c1, HK.drew.d0, HK.drew.d1⟩ | fail) (first
    | (go_at_call 11; (with_reducible refine (HP4.out _).mono ?_); rintro e w3 ⟨rfl, hb3⟩; have HK : Z4 w0 w3 w.heap.size w1.heap.size u z u zone := (by first | exact HK.later hb3 | exact HK.drew.later hb3); have c0 := HK.c0; have c1 := HK.c1; have d0 := HK.d0; have d1 := HK.d1)
    | (go_at_call 11; (with_reducible refine (HP5.out _).mono ?_); rintro e w4 ⟨rfl, hb4⟩; have HK : Z4 w0 w4 w.heap.size w1.heap.size u z u zone := (by first | exact HK.later hb4 | exact HK.drew.later hb4); have c0 := HK.c0; have c1 := HK.c1; have d0 := HK.d0; have d1 := HK.d1)
    | (go_at_call 11; (with_reducible refine (HP6.out _).mono ?_); rintro e w5 ⟨rfl, hb5⟩; have HK : Z4 w0 w5 w.heap.size w1.heap.size u z u zone := (by first | exact HK.later hb5 | exact HK.drew.later hb5); have c0 := HK.c0; have c1 := HK.c1; have d0 := HK.d0; have d1 := HK.d1)
    | fail)
  go_wp2
  go_region_held3 (fun W => W.cell? ⟨w.heap.size, 0, none⟩ = some (.int .i64 u) ∧ W.cell? ⟨w.heap.size, 1, none⟩ = some (.int .i64 z) ∧ W.cell? ⟨w1.heap.size, 0, none⟩ = some (.int .i64 u) ∧ W.cell? ⟨w1.heap.size, 1, none⟩ = some (.int .i64 zone)) (first | exact ⟨by assumption, by assumption, by assumption, by assumption⟩ | exact ⟨HK.drew.c0, HK.drew.c1, HK.drew.d0, HK.drew.d1⟩ | fail) (first
    | (go_at_call 11; (with_reducible refine (HQ4.out _).mono ?_); rintro e w6 ⟨rfl, hb6⟩; have HK : Z4 w0 w6 w.heap.size w1.heap.size u z u zone := (by first | exact HK.later hb6 | exact HK.drew.later hb6); have c0 := HK.c0; have c1 := HK.c1; have d0 := HK.d0; have d1 := HK.d1)
    | (go_at_call 11; (with_reducible refine (HQ5.out _).mono ?_); rintro e w7 ⟨rfl, hb7⟩; have HK : Z4 w0 w7 w.heap.size w1.heap.size u z u zone := (by first | exact HK.later hb7 | exact HK.drew.later hb7); have c0 := HK.c0; have c1 := HK.c1; have d0 := HK.d0; have d1 := HK.d1)
    | (go_at_call 11; (with_reducible refine (HQ6.out _).mono ?_); rintro e w8 ⟨rfl, hb8⟩; have HK : Z4 w0 w8 w.heap.size w1.heap.size u z u zone := (by first | exact HK.later hb8 | exact HK.drew.later hb8); have c0 := HK.c0; have c1 := HK.c1; have d0 := HK.d0; have d1 := HK.d1)
    | fail)
  go_wp2
  go_region_held3 (fun W => W.cell? ⟨w.heap.size, 0, none⟩ = some (.int .i64 u) ∧ W.cell? ⟨w.heap.size, 1, none⟩ = some (.int .i64 z) ∧ W.cell? ⟨w1.heap.size, 0, none⟩ = some (.int .i64 u) ∧ W.cell? ⟨w1.heap.size, 1, none⟩ = some (.int .i64 zone)) (first | exact ⟨by assumption, by assumption, by assumption, by assumption⟩ | exact ⟨HK.drew.c0, HK.drew.c1, HK.drew.d0, HK.drew.d1⟩ | fail) (first
    | (go_at_call 11; (with_reducible refine (HP8.out _).mono ?_); rintro e w9 ⟨rfl, hb9⟩; have HK : Z4 w0 w9 w.heap.size w1.heap.size u z u zone := (by first | exact HK.later hb9 | exact HK.drew.later hb9); have c0 := HK.c0; have c1 := HK.c1; have d0 := HK.d0; have d1 := HK.d1)
    | fail)
  go_wp2_with fail
  cases rt2 with
  | false =>
    go_wp2_with (go_at_call 10; (with_reducible refine (HV1.out _).mono ?_); rintro e w10 ⟨rfl, hb10⟩; have HK : Z4 w0 w10 w.heap.size w9.heap.size u z U2 z := (by first | exact HK.next hb10 | exact HK.drew.next hb10); have c0 := HK.c0; have c1 := HK.c1; have d0 := HK.d0; have d1 := HK.d1)
    go_ret
    exact ⟨rfl, HB0.out.trans (HK.bel.mono HB0.out.size)⟩
  | true =>
    by_cases hy1 : y1 = 0
    · subst hy1
      go_wp2_with (first
        | (go_at_call 10; (with_reducible refine (HV1.out _).mono ?_); rintro e w10 ⟨rfl, hb10⟩; have HK : Z4 w0 w10 w.heap.size w9.heap.size u z U2 z := (by first | exact HK.next hb10 | exact HK.drew.next hb10); have c0 := HK.c0; have c1 := HK.c1; have d0 := HK.d0; have d1 := HK.d1)
        | (go_at_call 11; (with_reducible refine (HY1.out _).mono ?_); rintro e w11 ⟨rfl, hb11⟩; have HK : Z4 w0 w11 w.heap.size w9.heap.size u z U2 z := (by first | exact HK.later hb11 | exact HK.drew.later hb11); have c0 := HK.c0; have c1 := HK.c1; have d0 := HK.d0; have d1 := HK.d1))
      go_ret
      exact ⟨rfl, HB0.out.trans (HK.bel.mono HB0.out.size)⟩
    · have j1 : (y1 == 0) = false := beq_eq_false_iff_ne.2 hy1
      obtain rfl : DN = N := HONE.out hy1
      by_cases hy2 : m1 = 0
      · subst hy2
        clear hy1
        go_wp2_with (first
          | (go_at_call 10; (with_reducible refine (HV1.out _).mono ?_); rintro e w10 ⟨rfl, hb10⟩; have HK : Z4 w0 w10 w.heap.size w9.heap.size u z U2 z := (by first | exact HK.next hb10 | exact HK.drew.next hb10); have c0 := HK.c0; have c1 := HK.c1; have d0 := HK.d0; have d1 := HK.d1)
          | (go_at_call 11; (with_reducible refine (HY1.out _).mono ?_); rintro e w11 ⟨rfl, hb11⟩; have HK : Z4 w0 w11 w.heap.size w9.heap.size u z U2 z := (by first | exact HK.later hb11 | exact HK.drew.later hb11); have c0 := HK.c0; have c1 := HK.c1; have d0 := HK.d0; have d1 := HK.d1)
          | (go_at_call 11; (with_reducible refine (HM1.out _).mono ?_); rintro e w12 ⟨rfl, hb12⟩; have HK : Z4 w0 w12 w.heap.size w9.heap.size u z U2 z := (by first | exact HK.later hb12 | exact HK.drew.later hb12); have c0 := HK.c0; have c1 := HK.c1; have d0 := HK.d0; have d1 := HK.d1))
        go_ret
        exact ⟨rfl, HB0.out.trans (HK.bel.mono HB0.out.size)⟩
      · have j2 : (m1 == 0) = false := beq_eq_false_iff_ne.2 hy2
        obtain rfl : DM = N2 := HTWO.out rfl hy2
        obtain rfl : H4 = a4 := HR4.out rfl
        clear hy1 hy2
        go_wp2_with (first
          | (go_at_call 10; (with_reducible refine (HV1.out _).mono ?_); rintro e w10 ⟨rfl, hb10⟩; have HK : Z4 w0 w10 w.heap.size w9.heap.size u z U2 z := (by first | exact HK.next hb10 | exact HK.drew.next hb10); have c0 := HK.c0; have c1 := HK.c1; have d0 := HK.d0; have d1 := HK.d1)
          | (go_at_call 11; (with_reducible refine (HY1.out _).mono ?_); rintro e w11 ⟨rfl, hb11⟩; have HK : Z4 w0 w11 w.heap.size w9.heap.size u z U2 z := (by first | exact HK.later hb11 | exact HK.drew.later hb11); have c0 := HK.c0; have c1 := HK.c1; have d0 := HK.d0; have d1 := HK.d1)
          | (go_at_call 11; (with_reducible refine (HM1.out _).mono ?_); rintro e w12 ⟨rfl, hb12⟩; have HK : Z4 w0 w12 w.heap.size w9.heap.size u z U2 z := (by first | exact HK.later hb12 | exact HK.drew.later hb12); have c0 := HK.c0; have c1 := HK.c1; have d0 := HK.d0; have d1 := HK.d1))
        go_region_held3 (fun W => W.cell? ⟨w.heap.size, 0, none⟩ = some (.int .i64 u) ∧ W.cell? ⟨w.heap.size, 1, none⟩ = some (.int .i64 z) ∧ W.cell? ⟨w9.heap.size, 0, none⟩ = some (.int .i64 U2) ∧ W.cell? ⟨w9.heap.size, 1, none⟩ = some (.int .i64 z)) (first | exact ⟨by assumption, by assumption, by assumption, by assumption⟩ | exact ⟨HK.drew.c0, HK.drew.c1, HK.drew.d0, HK.drew.d1⟩ | fail) (first
          | (go_at_call 11; (with_reducible refine (HY1.out _).mono ?_); rintro e w13 ⟨rfl, hb13⟩; have HK : Z4 w0 w13 w.heap.size w9.heap.size u z U2 z := (by first | exact HK.later hb13 | exact HK.drew.later hb13); have c0 := HK.c0; have c1 := HK.c1; have d0 := HK.d0; have d1 := HK.d1)
          | (go_at_call 11; (with_reducible refine (HY2.out _).mono ?_); rintro e w14 ⟨rfl, hb14⟩; have HK : Z4 w0 w14 w.heap.size w9.heap.size u z U2 z := (by first | exact HK.later hb14 | exact HK.drew.later hb14); have c0 := HK.c0; have c1 := HK.c1; have d0 := HK.d0; have d1 := HK.d1)
          | (go_at_call 11; (with_reducible refine (HY3.out _).mono ?_); rintro e w15 ⟨rfl, hb15⟩; have HK : Z4 w0 w15 w.heap.size w9.heap.size u z U2 z := (by first | exact HK.later hb15 | exact HK.drew.later hb15); have c0 := HK.c0; have c1 := HK.c1; have d0 := HK.d0; have d1 := HK.d1)
          | (go_at_call 13; (with_reducible refine (HDn.out _).mono ?_); rintro e w16 ⟨rfl, hb16⟩; have HK : Z4 w0 w16 w.heap.size w9.heap.size u z U2 z := (by first | exact HK.later hb16 | exact HK.drew.later hb16); have c0 := HK.c0; have c1 := HK.c1; have d0 := HK.d0; have d1 := HK.d1)
          | fail)
        go_wp2
        go_region_held3 (fun W => W.cell? ⟨w.heap.size, 0, none⟩ = some (.int .i64 u) ∧ W.cell? ⟨w.heap.size, 1, none⟩ = some (.int .i64 z) ∧ W.cell? ⟨w9.heap.size, 0, none⟩ = some (.int .i64 U2) ∧ W.cell? ⟨w9.heap.size, 1, none⟩ = some (.int .i64 z)) (first | exact ⟨by assumption, by assumption, by assumption, by assumption⟩ | exact ⟨HK.drew.c0, HK.drew.c1, HK.drew.d0, HK.drew.d1⟩ | fail) (first
          | (go_at_call 11; (with_reducible refine (HM1.out _).mono ?_); rintro e w17 ⟨rfl, hb17⟩; have HK : Z4 w0 w17 w.heap.size w9.heap.size u z U2 z := (by first | exact HK.later hb17 | exact HK.drew.later hb17); have c0 := HK.c0; have c1 := HK.c1; have d0 := HK.d0; have d1 := HK.d1)
          | (go_at_call 11; (with_reducible refine (HM2.out _).mono ?_); rintro e w18 ⟨rfl, hb18⟩; have HK : Z4 w0 w18 w.heap.size w9.heap.size u z U2 z := (by first | exact HK.later hb18 | exact HK.drew.later hb18); have c0 := HK.c0; have c1 := HK.c1; have d0 := HK.d0; have d1 := HK.d1)
          | (go_at_call 11; (with_reducible refine (HM3.out _).mono ?_); rintro e w19 ⟨rfl, hb19⟩; have HK : Z4 w0 w19 w.heap.size w9.heap.size u z U2 z := (by first | exact HK.later hb19 | exact HK.drew.later hb19); have c0 := HK.c0; have c1 := HK.c1; have d0 := HK.d0; have d1 := HK.d1)
          | (go_at_call 13; (with_reducible refine (HDm.out _).mono ?_); rintro e w20 ⟨rfl, hb20⟩; have HK : Z4 w0 w20 w.heap.size w9.heap.size u z U2 z := (by first | exact HK.later hb20 | exact HK.drew.later hb20); have c0 := HK.c0; have c1 := HK.c1; have d0 := HK.d0; have d1 := HK.d1)
          | fail)
        go_wp2
        go_region_held3 (fun W => W.cell? ⟨w.heap.size, 0, none⟩ = some (.int .i64 u) ∧ W.cell? ⟨w.heap.size, 1, none⟩ = some (.int .i64 z) ∧ W.cell? ⟨w9.heap.size, 0, none⟩ = some (.int .i64 U2) ∧ W.cell? ⟨w9.heap.size, 1, none⟩ = some (.int .i64 z)) (first | exact ⟨by assumption, by assumption, by assumption, by assumption⟩ | exact ⟨HK.drew.c0, HK.drew.c1, HK.drew.d0, HK.drew.d1⟩ | fail) (first
          | (go_at_call 11; (with_reducible refine (HP7.out _).mono ?_); rintro e w22 ⟨rfl, hb22⟩; have HK : Z4 w0 w22 w.heap.size w9.heap.size u z U2 z := (by first | exact HK.later hb22 | exact HK.drew.later hb22); have c0 := HK.c0; have c1 := HK.c1; have d0 := HK.d0; have d1 := HK.d1)
          | (go_at_call 14; (with_reducible refine (HK7.out _).mono ?_); rintro e w23 ⟨rfl, hb23⟩; have HK : Z4 w0 w23 w.heap.size w9.heap.size u z U2 z := (by first | exact HK.later hb23 | exact HK.drew.later hb23); have c0 := HK.c0; have c1 := HK.c1; have d0 := HK.d0; have d1 := HK.d1)
          | (go_at_call 11; (with_reducible refine (HM4.out _).mono ?_); rintro e w24 ⟨rfl, hb24⟩; have HK : Z4 w0 w24 w.heap.size w9.heap.size u z U2 z := (by first | exact HK.later hb24 | exact HK.drew.later hb24); have c0 := HK.c0; have c1 := HK.c1; have d0 := HK.d0; have d1 := HK.d1)
          | (go_at_call 11; (with_reducible refine (HP4.out _).mono ?_); rintro e w25 ⟨rfl, hb25⟩; have HK : Z4 w0 w25 w.heap.size w9.heap.size u z U2 z := (by first | exact HK.later hb25 | exact HK.drew.later hb25); have c0 := HK.c0; have c1 := HK.c1; have d0 := HK.d0; have d1 := HK.d1)
          | fail)
        go_wp2
        go_ret
        exact ⟨rfl, HB0.out.trans (HK.bel.mono HB0.out.size)⟩
set_option maxRecDepth 100000 in
theorem dateZones_any (u z zone days : Int) (w : World) (h : Rd7 w) (_hz : -9223372036854775808 ≤ zone ∧ zone ≤ 9223372036854775807) (_hd : -9223372036854775808 ≤ days ∧ days ≤ 9223372036854775807) : Calls Tryd.prog 5 #[.agg #[.int .i64 u, .int .i64 z], .int .i64 zone, .int .i64 days] w (Truth7 w) := by
  cases hr : rightL u z with
  | false => exact zones_wrong u z zone days w h hr
  | true =>
    cases hr2 : rightL u zone with
    | false => exact zones_wrong2 u z zone days w h hr hr2
    | true =>
      by_cases hd : days < 0 ∨ 3000 < days
      · exact zones_days u z zone days w h hr hr2 hd
      · exact zones_main u z zone days w h hr hr2 (by omega) (by omega)
end Go.Proofs.YtlgnhngbmciaoaaDoor
