/- Walks: the law DateBack. -/
import Derived.Test.YtlgnhngbmciaoaaDoorDtS7
namespace Go.Proofs.YtlgnhngbmciaoaaDoor
open Go.RowKit Pk Dt

theorem read_none (s : ByteArray) (w : World) (h : Rd7 w) (hs : s.size ≤ 1000) (hr : readL s.data.toList = none) : Calls Tryd.prog 9 #[.string s] w fun e w' => e = .returned (.tuple #[.agg #[.int .i64 0, .int .i64 0], .bool false]) ∧ Below w.heap.size w w' := read_lit s none _ w h hs hr rfl
theorem read_some' (s : ByteArray) (a b : Int) (w : World) (h : Rd7 w) (hs : s.size ≤ 1000) (hr : readL s.data.toList = some (a, b)) : Calls Tryd.prog 9 #[.string s] w fun e w' => e = .returned (.tuple #[.agg #[.int .i64 a, .int .i64 b], .bool true]) ∧ Below w.heap.size w w' := read_lit s (some (a, b)) _ w h hs hr rfl
theorem rd_emp : readL [] = none := by decide +kernel
theorem strE {A : ByteArray} (h : 0 < A.size) : A.toList.isEmpty = false := neS h
theorem strN {A : ByteArray} (h : 0 < A.size) : (A.toList = []) = False := by
  rw [eq_iff_iff, iff_false]
  intro e
  have := strE h
  rw [e] at this
  cases this
set_option maxHeartbeats 4000000 in
set_option maxRecDepth 100000 in
theorem back_P_some (u z : Int) (s : ByteArray) (w : World) (h : Rd7 w) (hs : s.size ≤ 300) (hy : partL u z 1 ≠ 0) (a b : Int) (hrs : readL s.data.toList = some (a, b)) :
    Calls Tryd.prog 3 #[.agg #[.int .i64 u, .int .i64 z], .string s] w (Truth7 w) := by
  unfold Truth7
  have hb0 : Below w.heap.size w (w.alloc (.cells #[.int .i64 u, .int .i64 z] 23)) := (Below.refl _ _).alloc (Nat.le_refl _) _
  have c0 : (w.alloc (.cells #[.int .i64 u, .int .i64 z] 23)).cell? ⟨w.heap.size, 0, none⟩ = some (.int .i64 u) := by simp
  have c1 : (w.alloc (.cells #[.int .i64 u, .int .i64 z] 23)).cell? ⟨w.heap.size, 1, none⟩ = some (.int .i64 z) := by simp
  have hS := fun (w : World) h => small7_any w h
  unfold Truth7 at hS
  have hRt := fun w => right_any u z w
  have hP := fun w => part1_any u z w
  have hW := fun w h => write_any u z w h
  have hr : rightL u z = true := by
    cases h : rightL u z with
    | true => rfl
    | false => exact absurd (by unfold partL; rw [h]; rfl) hy
  obtain ⟨hrw, hlen⟩ := read_write hr hy
  have hpos : 0 < partL u z 1 := by
    have hin := (year_in hr).1 hy
    have := (civ_day hin.1 hin.2).1.1
    rw [part_year hr]; omega
  rw [hr] at hRt
  generalize partL u z 1 = p at *
  have pp : decide (0 < p) = true := decide_eq_true hpos
  obtain ⟨A, hA, hAl, hAs⟩ := arr_ex1 (writeL u z)
  rw [← hA] at hW
  rw [hlen] at hAs
  have hR := fun w h => read_some' A u z w h (by omega) (by rw [hAl]; exact hrw)
  have q31 : ((A.size : Int) != 31) = false := by rw [bne, beq_iff_eq.2 (by omega)]; rfl
  have a0 : 0 < A.size := by omega
  have a1 := strE a0
  have a2 := strN a0
  have a3 : A.size ≤ 31 := by omega
  have a4 : 31 ≤ A.size := by omega
  clear hAs hA hAl hlen hrw hy hr
  obtain ⟨vr, v1, v2⟩ := read_some hrs
  have vy : partL a b 1 ≠ 0 := (year_in vr).2 ⟨v1, v2⟩
  obtain ⟨vrw, vlen⟩ := read_write vr vy
  have hRt2 := fun w => right_any a b w
  rw [vr] at hRt2
  have hW2 := fun w h => write_any a b w h
  obtain ⟨B, hB, hBl, hBs⟩ := arr_ex1 (writeL a b)
  rw [← hB] at hW2
  rw [vlen] at hBs
  have hR3 := fun w h => read_some' B a b w h (by omega) (by rw [hBl]; exact vrw)
  have hR2 := fun w h => read_some' s a b w h (by omega) hrs
  clear vr v1 v2 vy vrw vlen hB hBl hBs hrs
  have HS := Lib.hid hS
  have HW := Lib.hid hW
  have HR := Lib.hid hR
  have HRt := Lib.hid hRt
  have HR2 := Lib.hid hR2
  have HP := Lib.hid hP
  have HRt2 := Lib.hid hRt2
  have HW2 := Lib.hid hW2
  have HR3 := Lib.hid hR3
  have q300 : decide ((300 : Int) < (s.size : Int)) = false := decide_eq_false (by omega)
  have HRD := Lib.hid (h.late hb0)
  have HB0 := Lib.hid hb0
  have tb := Below.refl (w.alloc (.cells #[.int .i64 u, .int .i64 z] 23)).heap.size (w.alloc (.cells #[.int .i64 u, .int .i64 z] 23))
  clear h hb0 hS hW hR hRt hR2 hP hRt2 hW2 hR3
  go_enter Tryd.func3, Tryd.ntmps3
  go_wp2_with (first
    | (go_at_call 7; (with_reducible refine (HS.out _ (HRD.out.late (by first | exact tb | exact tb.alloc tb.size _))).mono ?_); rintro e w1 ⟨rfl, hb1⟩; have tb := tb.trans (hb1.mono tb.size); have c0 := laterC hb1 c0; have c1 := laterC hb1 c1)
    | (go_at_call 8; (with_reducible refine (HW.out _ (HRD.out.late (by first | exact tb | exact tb.alloc tb.size _))).mono ?_); rintro e w2 ⟨rfl, hb2⟩; have tb := tb.trans (hb2.mono tb.size); have c0 := laterC hb2 c0; have c1 := laterC hb2 c1)
    | (go_at_call 9; (with_reducible refine (HR.out _ (HRD.out.late (by first | exact tb | exact tb.alloc tb.size _))).mono ?_); rintro e w3 ⟨rfl, hb3⟩; have tb := tb.trans (hb3.mono tb.size); have c0 := laterC hb3 c0; have c1 := laterC hb3 c1; have c0n := laterA (.cells #[.int .i64 u, .int .i64 z] 23) c0; have c1n := laterA (.cells #[.int .i64 u, .int .i64 z] 23) c1)
    | (go_at_call 10; (with_reducible refine (HRt.out _).mono ?_); rintro e w4 ⟨rfl, hb4⟩; have tb := tb.alloc tb.size (.cells #[.int .i64 u, .int .i64 z] 23); have tb := tb.trans (hb4.mono tb.size); have c0 := laterC hb4 (laterA _ c0); have c1 := laterC hb4 (laterA _ c1); have d0 : w4.cell? ⟨w3.heap.size, 0, none⟩ = some (.int .i64 u) := laterC hb4 (by simp); have d1 : w4.cell? ⟨w3.heap.size, 1, none⟩ = some (.int .i64 z) := laterC hb4 (by simp))
    | (go_at_call 11; (with_reducible refine (HP.out _).mono ?_); rintro e w5 ⟨rfl, hb5⟩; have tb := tb.trans (hb5.mono tb.size); have c0 := laterC hb5 c0; have c1 := laterC hb5 c1; have d0 := laterC hb5 d0; have d1 := laterC hb5 d1)
    | (go_at_call 9; (with_reducible refine (HR2.out _ (HRD.out.late (by first | exact tb | exact tb.alloc tb.size _))).mono ?_); rintro e w6 ⟨rfl, hb6⟩; have tb := tb.trans (hb6.mono tb.size); have c0 := laterC hb6 c0; have c1 := laterC hb6 c1; have d0 := laterC hb6 d0; have d1 := laterC hb6 d1)
    | (go_at_call 8; (with_reducible refine (HW2.out _ (HRD.out.late (by first | exact tb | exact tb.alloc tb.size _))).mono ?_); rintro e w7 ⟨rfl, hb7⟩; have tb := tb.alloc tb.size (.cells #[.int .i64 a, .int .i64 b] 23); have tb := tb.trans (hb7.mono tb.size); have c0 := laterC hb7 (laterA _ c0); have c1 := laterC hb7 (laterA _ c1); have d0 := laterC hb7 (laterA _ d0); have d1 := laterC hb7 (laterA _ d1); have g0 : w7.cell? ⟨w6.heap.size, 0, none⟩ = some (.int .i64 a) := laterC hb7 (by simp); have g1 : w7.cell? ⟨w6.heap.size, 1, none⟩ = some (.int .i64 b) := laterC hb7 (by simp))
    | (go_at_call 9; (with_reducible refine (HR3.out _ (HRD.out.late (by first | exact tb | exact tb.alloc tb.size _))).mono ?_); rintro e w8 ⟨rfl, hb8⟩; have tb := tb.trans (hb8.mono tb.size); have c0 := laterC hb8 c0; have c1 := laterC hb8 c1; have d0 := laterC hb8 d0; have d1 := laterC hb8 d1; have g0 := laterC hb8 g0; have g1 := laterC hb8 g1; have c0n := laterA (.cells #[.int .i64 a, .int .i64 b] 23) c0; have c1n := laterA (.cells #[.int .i64 a, .int .i64 b] 23) c1; have d0n := laterA (.cells #[.int .i64 a, .int .i64 b] 23) d0; have d1n := laterA (.cells #[.int .i64 a, .int .i64 b] 23) d1; have g0n := laterA (.cells #[.int .i64 a, .int .i64 b] 23) g0; have g1n := laterA (.cells #[.int .i64 a, .int .i64 b] 23) g1)
    | (go_at_call 10; (with_reducible refine (HRt2.out _).mono ?_); rintro e w9 ⟨rfl, hb9⟩; have tb := tb.alloc tb.size (.cells #[.int .i64 a, .int .i64 b] 23); have tb := tb.trans (hb9.mono tb.size); have c0 := laterC hb9 (laterA _ c0); have c1 := laterC hb9 (laterA _ c1); have d0 := laterC hb9 (laterA _ d0); have d1 := laterC hb9 (laterA _ d1); have g0 := laterC hb9 (laterA _ g0); have g1 := laterC hb9 (laterA _ g1); have x0 : w9.cell? ⟨w8.heap.size, 0, none⟩ = some (.int .i64 a) := laterC hb9 (by simp); have x1 : w9.cell? ⟨w8.heap.size, 1, none⟩ = some (.int .i64 b) := laterC hb9 (by simp)))
  go_ret
  exact ⟨rfl, HB0.out.trans (tb.mono HB0.out.size)⟩
set_option maxHeartbeats 4000000 in
set_option maxRecDepth 100000 in
theorem back_P_none (u z : Int) (s : ByteArray) (w : World) (h : Rd7 w) (hs : s.size ≤ 300) (hy : partL u z 1 ≠ 0) (hrs : readL s.data.toList = none) :
    Calls Tryd.prog 3 #[.agg #[.int .i64 u, .int .i64 z], .string s] w (Truth7 w) := by
  unfold Truth7
  have hb0 : Below w.heap.size w (w.alloc (.cells #[.int .i64 u, .int .i64 z] 23)) := (Below.refl _ _).alloc (Nat.le_refl _) _
  have c0 : (w.alloc (.cells #[.int .i64 u, .int .i64 z] 23)).cell? ⟨w.heap.size, 0, none⟩ = some (.int .i64 u) := by simp
  have c1 : (w.alloc (.cells #[.int .i64 u, .int .i64 z] 23)).cell? ⟨w.heap.size, 1, none⟩ = some (.int .i64 z) := by simp
  have hS := fun (w : World) h => small7_any w h
  unfold Truth7 at hS
  have hRt := fun w => right_any u z w
  have hP := fun w => part1_any u z w
  have hW := fun w h => write_any u z w h
  have hr : rightL u z = true := by
    cases h : rightL u z with
    | true => rfl
    | false => exact absurd (by unfold partL; rw [h]; rfl) hy
  obtain ⟨hrw, hlen⟩ := read_write hr hy
  have hpos : 0 < partL u z 1 := by
    have hin := (year_in hr).1 hy
    have := (civ_day hin.1 hin.2).1.1
    rw [part_year hr]; omega
  rw [hr] at hRt
  generalize partL u z 1 = p at *
  have pp : decide (0 < p) = true := decide_eq_true hpos
  obtain ⟨A, hA, hAl, hAs⟩ := arr_ex1 (writeL u z)
  rw [← hA] at hW
  rw [hlen] at hAs
  have hR := fun w h => read_some' A u z w h (by omega) (by rw [hAl]; exact hrw)
  have q31 : ((A.size : Int) != 31) = false := by rw [bne, beq_iff_eq.2 (by omega)]; rfl
  have a0 : 0 < A.size := by omega
  have a1 := strE a0
  have a2 := strN a0
  have a3 : A.size ≤ 31 := by omega
  have a4 : 31 ≤ A.size := by omega
  clear hAs hA hAl hlen hrw hy hr
  have hR2 := fun w h => read_none s w h (by omega) hrs
  clear hrs
  have HS := Lib.hid hS
  have HW := Lib.hid hW
  have HR := Lib.hid hR
  have HRt := Lib.hid hRt
  have HR2 := Lib.hid hR2
  have HP := Lib.hid hP
  have q300 : decide ((300 : Int) < (s.size : Int)) = false := decide_eq_false (by omega)
  have HRD := Lib.hid (h.late hb0)
  have HB0 := Lib.hid hb0
  have tb := Below.refl (w.alloc (.cells #[.int .i64 u, .int .i64 z] 23)).heap.size (w.alloc (.cells #[.int .i64 u, .int .i64 z] 23))
  clear h hb0 hS hW hR hRt hR2 hP
  go_enter Tryd.func3, Tryd.ntmps3
  go_wp2_with (first
    | (go_at_call 7; (with_reducible refine (HS.out _ (HRD.out.late (by first | exact tb | exact tb.alloc tb.size _))).mono ?_); rintro e w1 ⟨rfl, hb1⟩; have tb := tb.trans (hb1.mono tb.size); have c0 := laterC hb1 c0; have c1 := laterC hb1 c1)
    | (go_at_call 8; (with_reducible refine (HW.out _ (HRD.out.late (by first | exact tb | exact tb.alloc tb.size _))).mono ?_); rintro e w2 ⟨rfl, hb2⟩; have tb := tb.trans (hb2.mono tb.size); have c0 := laterC hb2 c0; have c1 := laterC hb2 c1)
    | (go_at_call 9; (with_reducible refine (HR.out _ (HRD.out.late (by first | exact tb | exact tb.alloc tb.size _))).mono ?_); rintro e w3 ⟨rfl, hb3⟩; have tb := tb.trans (hb3.mono tb.size); have c0 := laterC hb3 c0; have c1 := laterC hb3 c1; have c0n := laterA (.cells #[.int .i64 u, .int .i64 z] 23) c0; have c1n := laterA (.cells #[.int .i64 u, .int .i64 z] 23) c1)
    | (go_at_call 10; (with_reducible refine (HRt.out _).mono ?_); rintro e w4 ⟨rfl, hb4⟩; have tb := tb.alloc tb.size (.cells #[.int .i64 u, .int .i64 z] 23); have tb := tb.trans (hb4.mono tb.size); have c0 := laterC hb4 (laterA _ c0); have c1 := laterC hb4 (laterA _ c1); have d0 : w4.cell? ⟨w3.heap.size, 0, none⟩ = some (.int .i64 u) := laterC hb4 (by simp); have d1 : w4.cell? ⟨w3.heap.size, 1, none⟩ = some (.int .i64 z) := laterC hb4 (by simp))
    | (go_at_call 11; (with_reducible refine (HP.out _).mono ?_); rintro e w5 ⟨rfl, hb5⟩; have tb := tb.trans (hb5.mono tb.size); have c0 := laterC hb5 c0; have c1 := laterC hb5 c1; have d0 := laterC hb5 d0; have d1 := laterC hb5 d1)
    | (go_at_call 9; (with_reducible refine (HR2.out _ (HRD.out.late (by first | exact tb | exact tb.alloc tb.size _))).mono ?_); rintro e w6 ⟨rfl, hb6⟩; have tb := tb.trans (hb6.mono tb.size); have c0 := laterC hb6 c0; have c1 := laterC hb6 c1; have d0 := laterC hb6 d0; have d1 := laterC hb6 d1))
  go_ret
  exact ⟨rfl, HB0.out.trans ((tb.alloc tb.size _).mono HB0.out.size)⟩
set_option maxHeartbeats 4000000 in
set_option maxRecDepth 100000 in
theorem back_N1_some (u z : Int) (s : ByteArray) (w : World) (h : Rd7 w) (hs : s.size ≤ 300) (hy : partL u z 1 = 0) (hr : rightL u z = true) (a b : Int) (hrs : readL s.data.toList = some (a, b)) :
    Calls Tryd.prog 3 #[.agg #[.int .i64 u, .int .i64 z], .string s] w (Truth7 w) := by
  unfold Truth7
  have hb0 : Below w.heap.size w (w.alloc (.cells #[.int .i64 u, .int .i64 z] 23)) := (Below.refl _ _).alloc (Nat.le_refl _) _
  have c0 : (w.alloc (.cells #[.int .i64 u, .int .i64 z] 23)).cell? ⟨w.heap.size, 0, none⟩ = some (.int .i64 u) := by simp
  have c1 : (w.alloc (.cells #[.int .i64 u, .int .i64 z] 23)).cell? ⟨w.heap.size, 1, none⟩ = some (.int .i64 z) := by simp
  have hS := fun (w : World) h => small7_any w h
  unfold Truth7 at hS
  have hRt := fun w => right_any u z w
  have hP := fun w => part1_any u z w
  have hW := fun w h => write_any u z w h
  have hwe : writeL u z = [] := by unfold writeL; rw [if_pos hy]
  rw [hr] at hRt
  rw [hy] at hP
  rw [hwe] at hW
  have hW : ∀ w, Rd7 w → Calls Tryd.prog 8 #[.agg #[.int .i64 u, .int .i64 z]] w fun e w' => e = .returned (.string ⟨#[]⟩) ∧ Below w.heap.size w w' := hW
  have hR := fun w h => read_none ⟨#[]⟩ w h (by decide) rd_emp
  clear hwe hy hr
  obtain ⟨vr, v1, v2⟩ := read_some hrs
  have vy : partL a b 1 ≠ 0 := (year_in vr).2 ⟨v1, v2⟩
  obtain ⟨vrw, vlen⟩ := read_write vr vy
  have hRt2 := fun w => right_any a b w
  rw [vr] at hRt2
  have hW2 := fun w h => write_any a b w h
  obtain ⟨B, hB, hBl, hBs⟩ := arr_ex1 (writeL a b)
  rw [← hB] at hW2
  rw [vlen] at hBs
  have hR3 := fun w h => read_some' B a b w h (by omega) (by rw [hBl]; exact vrw)
  have hR2 := fun w h => read_some' s a b w h (by omega) hrs
  clear vr v1 v2 vy vrw vlen hB hBl hBs hrs
  have HS := Lib.hid hS
  have HW := Lib.hid hW
  have HR := Lib.hid hR
  have HRt := Lib.hid hRt
  have HR2 := Lib.hid hR2
  have HP := Lib.hid hP
  have HRt2 := Lib.hid hRt2
  have HW2 := Lib.hid hW2
  have HR3 := Lib.hid hR3
  have q300 : decide ((300 : Int) < (s.size : Int)) = false := decide_eq_false (by omega)
  have HRD := Lib.hid (h.late hb0)
  have HB0 := Lib.hid hb0
  have tb := Below.refl (w.alloc (.cells #[.int .i64 u, .int .i64 z] 23)).heap.size (w.alloc (.cells #[.int .i64 u, .int .i64 z] 23))
  clear h hb0 hS hW hR hRt hR2 hP hRt2 hW2 hR3
  go_enter Tryd.func3, Tryd.ntmps3
  go_wp2_with (first
    | (go_at_call 7; (with_reducible refine (HS.out _ (HRD.out.late (by first | exact tb | exact tb.alloc tb.size _))).mono ?_); rintro e w1 ⟨rfl, hb1⟩; have tb := tb.trans (hb1.mono tb.size); have c0 := laterC hb1 c0; have c1 := laterC hb1 c1)
    | (go_at_call 8; (with_reducible refine (HW.out _ (HRD.out.late (by first | exact tb | exact tb.alloc tb.size _))).mono ?_); rintro e w2 ⟨rfl, hb2⟩; have tb := tb.trans (hb2.mono tb.size); have c0 := laterC hb2 c0; have c1 := laterC hb2 c1)
    | (go_at_call 9; (with_reducible refine (HR.out _ (HRD.out.late (by first | exact tb | exact tb.alloc tb.size _))).mono ?_); rintro e w3 ⟨rfl, hb3⟩; have tb := tb.trans (hb3.mono tb.size); have c0 := laterC hb3 c0; have c1 := laterC hb3 c1; have c0n := laterA (.cells #[.int .i64 0, .int .i64 0] 23) c0; have c1n := laterA (.cells #[.int .i64 0, .int .i64 0] 23) c1)
    | (go_at_call 10; (with_reducible refine (HRt.out _).mono ?_); rintro e w4 ⟨rfl, hb4⟩; have tb := tb.alloc tb.size (.cells #[.int .i64 0, .int .i64 0] 23); have tb := tb.trans (hb4.mono tb.size); have c0 := laterC hb4 (laterA _ c0); have c1 := laterC hb4 (laterA _ c1); have d0 : w4.cell? ⟨w3.heap.size, 0, none⟩ = some (.int .i64 0) := laterC hb4 (by simp); have d1 : w4.cell? ⟨w3.heap.size, 1, none⟩ = some (.int .i64 0) := laterC hb4 (by simp))
    | (go_at_call 11; (with_reducible refine (HP.out _).mono ?_); rintro e w5 ⟨rfl, hb5⟩; have tb := tb.trans (hb5.mono tb.size); have c0 := laterC hb5 c0; have c1 := laterC hb5 c1; have d0 := laterC hb5 d0; have d1 := laterC hb5 d1)
    | (go_at_call 9; (with_reducible refine (HR2.out _ (HRD.out.late (by first | exact tb | exact tb.alloc tb.size _))).mono ?_); rintro e w6 ⟨rfl, hb6⟩; have tb := tb.trans (hb6.mono tb.size); have c0 := laterC hb6 c0; have c1 := laterC hb6 c1; have d0 := laterC hb6 d0; have d1 := laterC hb6 d1)
    | (go_at_call 8; (with_reducible refine (HW2.out _ (HRD.out.late (by first | exact tb | exact tb.alloc tb.size _))).mono ?_); rintro e w7 ⟨rfl, hb7⟩; have tb := tb.alloc tb.size (.cells #[.int .i64 a, .int .i64 b] 23); have tb := tb.trans (hb7.mono tb.size); have c0 := laterC hb7 (laterA _ c0); have c1 := laterC hb7 (laterA _ c1); have d0 := laterC hb7 (laterA _ d0); have d1 := laterC hb7 (laterA _ d1); have g0 : w7.cell? ⟨w6.heap.size, 0, none⟩ = some (.int .i64 a) := laterC hb7 (by simp); have g1 : w7.cell? ⟨w6.heap.size, 1, none⟩ = some (.int .i64 b) := laterC hb7 (by simp))
    | (go_at_call 9; (with_reducible refine (HR3.out _ (HRD.out.late (by first | exact tb | exact tb.alloc tb.size _))).mono ?_); rintro e w8 ⟨rfl, hb8⟩; have tb := tb.trans (hb8.mono tb.size); have c0 := laterC hb8 c0; have c1 := laterC hb8 c1; have d0 := laterC hb8 d0; have d1 := laterC hb8 d1; have g0 := laterC hb8 g0; have g1 := laterC hb8 g1; have c0n := laterA (.cells #[.int .i64 a, .int .i64 b] 23) c0; have c1n := laterA (.cells #[.int .i64 a, .int .i64 b] 23) c1; have d0n := laterA (.cells #[.int .i64 a, .int .i64 b] 23) d0; have d1n := laterA (.cells #[.int .i64 a, .int .i64 b] 23) d1; have g0n := laterA (.cells #[.int .i64 a, .int .i64 b] 23) g0; have g1n := laterA (.cells #[.int .i64 a, .int .i64 b] 23) g1)
    | (go_at_call 10; (with_reducible refine (HRt2.out _).mono ?_); rintro e w9 ⟨rfl, hb9⟩; have tb := tb.alloc tb.size (.cells #[.int .i64 a, .int .i64 b] 23); have tb := tb.trans (hb9.mono tb.size); have c0 := laterC hb9 (laterA _ c0); have c1 := laterC hb9 (laterA _ c1); have d0 := laterC hb9 (laterA _ d0); have d1 := laterC hb9 (laterA _ d1); have g0 := laterC hb9 (laterA _ g0); have g1 := laterC hb9 (laterA _ g1); have x0 : w9.cell? ⟨w8.heap.size, 0, none⟩ = some (.int .i64 a) := laterC hb9 (by simp); have x1 : w9.cell? ⟨w8.heap.size, 1, none⟩ = some (.int .i64 b) := laterC hb9 (by simp)))
  go_ret
  exact ⟨rfl, HB0.out.trans (tb.mono HB0.out.size)⟩
set_option maxHeartbeats 4000000 in
set_option maxRecDepth 100000 in
theorem back_N1_none (u z : Int) (s : ByteArray) (w : World) (h : Rd7 w) (hs : s.size ≤ 300) (hy : partL u z 1 = 0) (hr : rightL u z = true) (hrs : readL s.data.toList = none) :
    Calls Tryd.prog 3 #[.agg #[.int .i64 u, .int .i64 z], .string s] w (Truth7 w) := by
  unfold Truth7
  have hb0 : Below w.heap.size w (w.alloc (.cells #[.int .i64 u, .int .i64 z] 23)) := (Below.refl _ _).alloc (Nat.le_refl _) _
  have c0 : (w.alloc (.cells #[.int .i64 u, .int .i64 z] 23)).cell? ⟨w.heap.size, 0, none⟩ = some (.int .i64 u) := by simp
  have c1 : (w.alloc (.cells #[.int .i64 u, .int .i64 z] 23)).cell? ⟨w.heap.size, 1, none⟩ = some (.int .i64 z) := by simp
  have hS := fun (w : World) h => small7_any w h
  unfold Truth7 at hS
  have hRt := fun w => right_any u z w
  have hP := fun w => part1_any u z w
  have hW := fun w h => write_any u z w h
  have hwe : writeL u z = [] := by unfold writeL; rw [if_pos hy]
  rw [hr] at hRt
  rw [hy] at hP
  rw [hwe] at hW
  have hW : ∀ w, Rd7 w → Calls Tryd.prog 8 #[.agg #[.int .i64 u, .int .i64 z]] w fun e w' => e = .returned (.string ⟨#[]⟩) ∧ Below w.heap.size w w' := hW
  have hR := fun w h => read_none ⟨#[]⟩ w h (by decide) rd_emp
  clear hwe hy hr
  have hR2 := fun w h => read_none s w h (by omega) hrs
  clear hrs
  have HS := Lib.hid hS
  have HW := Lib.hid hW
  have HR := Lib.hid hR
  have HRt := Lib.hid hRt
  have HR2 := Lib.hid hR2
  have HP := Lib.hid hP
  have q300 : decide ((300 : Int) < (s.size : Int)) = false := decide_eq_false (by omega)
  have HRD := Lib.hid (h.late hb0)
  have HB0 := Lib.hid hb0
  have tb := Below.refl (w.alloc (.cells #[.int .i64 u, .int .i64 z] 23)).heap.size (w.alloc (.cells #[.int .i64 u, .int .i64 z] 23))
  clear h hb0 hS hW hR hRt hR2 hP
  go_enter Tryd.func3, Tryd.ntmps3
  go_wp2_with (first
    | (go_at_call 7; (with_reducible refine (HS.out _ (HRD.out.late (by first | exact tb | exact tb.alloc tb.size _))).mono ?_); rintro e w1 ⟨rfl, hb1⟩; have tb := tb.trans (hb1.mono tb.size); have c0 := laterC hb1 c0; have c1 := laterC hb1 c1)
    | (go_at_call 8; (with_reducible refine (HW.out _ (HRD.out.late (by first | exact tb | exact tb.alloc tb.size _))).mono ?_); rintro e w2 ⟨rfl, hb2⟩; have tb := tb.trans (hb2.mono tb.size); have c0 := laterC hb2 c0; have c1 := laterC hb2 c1)
    | (go_at_call 9; (with_reducible refine (HR.out _ (HRD.out.late (by first | exact tb | exact tb.alloc tb.size _))).mono ?_); rintro e w3 ⟨rfl, hb3⟩; have tb := tb.trans (hb3.mono tb.size); have c0 := laterC hb3 c0; have c1 := laterC hb3 c1; have c0n := laterA (.cells #[.int .i64 0, .int .i64 0] 23) c0; have c1n := laterA (.cells #[.int .i64 0, .int .i64 0] 23) c1)
    | (go_at_call 10; (with_reducible refine (HRt.out _).mono ?_); rintro e w4 ⟨rfl, hb4⟩; have tb := tb.alloc tb.size (.cells #[.int .i64 0, .int .i64 0] 23); have tb := tb.trans (hb4.mono tb.size); have c0 := laterC hb4 (laterA _ c0); have c1 := laterC hb4 (laterA _ c1); have d0 : w4.cell? ⟨w3.heap.size, 0, none⟩ = some (.int .i64 0) := laterC hb4 (by simp); have d1 : w4.cell? ⟨w3.heap.size, 1, none⟩ = some (.int .i64 0) := laterC hb4 (by simp))
    | (go_at_call 11; (with_reducible refine (HP.out _).mono ?_); rintro e w5 ⟨rfl, hb5⟩; have tb := tb.trans (hb5.mono tb.size); have c0 := laterC hb5 c0; have c1 := laterC hb5 c1; have d0 := laterC hb5 d0; have d1 := laterC hb5 d1)
    | (go_at_call 9; (with_reducible refine (HR2.out _ (HRD.out.late (by first | exact tb | exact tb.alloc tb.size _))).mono ?_); rintro e w6 ⟨rfl, hb6⟩; have tb := tb.trans (hb6.mono tb.size); have c0 := laterC hb6 c0; have c1 := laterC hb6 c1; have d0 := laterC hb6 d0; have d1 := laterC hb6 d1))
  go_ret
  exact ⟨rfl, HB0.out.trans ((tb.alloc tb.size _).mono HB0.out.size)⟩
set_option maxHeartbeats 4000000 in
set_option maxRecDepth 100000 in
theorem back_N0_some (u z : Int) (s : ByteArray) (w : World) (h : Rd7 w) (hs : s.size ≤ 300) (hr : rightL u z = false) (a b : Int) (hrs : readL s.data.toList = some (a, b)) :
    Calls Tryd.prog 3 #[.agg #[.int .i64 u, .int .i64 z], .string s] w (Truth7 w) := by
  unfold Truth7
  have hb0 : Below w.heap.size w (w.alloc (.cells #[.int .i64 u, .int .i64 z] 23)) := (Below.refl _ _).alloc (Nat.le_refl _) _
  have c0 : (w.alloc (.cells #[.int .i64 u, .int .i64 z] 23)).cell? ⟨w.heap.size, 0, none⟩ = some (.int .i64 u) := by simp
  have c1 : (w.alloc (.cells #[.int .i64 u, .int .i64 z] 23)).cell? ⟨w.heap.size, 1, none⟩ = some (.int .i64 z) := by simp
  have hS := fun (w : World) h => small7_any w h
  unfold Truth7 at hS
  have hRt := fun w => right_any u z w
  have hP := fun w => part1_any u z w
  have hW := fun w h => write_any u z w h
  have hy : partL u z 1 = 0 := by unfold partL; rw [hr]; rfl
  have hwe : writeL u z = [] := by unfold writeL; rw [if_pos hy]
  rw [hr] at hRt
  rw [hwe] at hW
  have hW : ∀ w, Rd7 w → Calls Tryd.prog 8 #[.agg #[.int .i64 u, .int .i64 z]] w fun e w' => e = .returned (.string ⟨#[]⟩) ∧ Below w.heap.size w w' := hW
  have hR := fun w h => read_none ⟨#[]⟩ w h (by decide) rd_emp
  clear hwe hy hr
  obtain ⟨vr, v1, v2⟩ := read_some hrs
  have vy : partL a b 1 ≠ 0 := (year_in vr).2 ⟨v1, v2⟩
  obtain ⟨vrw, vlen⟩ := read_write vr vy
  have hRt2 := fun w => right_any a b w
  rw [vr] at hRt2
  have hW2 := fun w h => write_any a b w h
  obtain ⟨B, hB, hBl, hBs⟩ := arr_ex1 (writeL a b)
  rw [← hB] at hW2
  rw [vlen] at hBs
  have hR3 := fun w h => read_some' B a b w h (by omega) (by rw [hBl]; exact vrw)
  have hR2 := fun w h => read_some' s a b w h (by omega) hrs
  clear vr v1 v2 vy vrw vlen hB hBl hBs hrs
  have HS := Lib.hid hS
  have HW := Lib.hid hW
  have HR := Lib.hid hR
  have HRt := Lib.hid hRt
  have HR2 := Lib.hid hR2
  have HRt2 := Lib.hid hRt2
  have HW2 := Lib.hid hW2
  have HR3 := Lib.hid hR3
  have q300 : decide ((300 : Int) < (s.size : Int)) = false := decide_eq_false (by omega)
  have HRD := Lib.hid (h.late hb0)
  have HB0 := Lib.hid hb0
  have tb := Below.refl (w.alloc (.cells #[.int .i64 u, .int .i64 z] 23)).heap.size (w.alloc (.cells #[.int .i64 u, .int .i64 z] 23))
  clear h hb0 hS hW hR hRt hR2 hRt2 hW2 hR3 hP
  go_enter Tryd.func3, Tryd.ntmps3
  go_wp2_with (first
    | (go_at_call 7; (with_reducible refine (HS.out _ (HRD.out.late (by first | exact tb | exact tb.alloc tb.size _))).mono ?_); rintro e w1 ⟨rfl, hb1⟩; have tb := tb.trans (hb1.mono tb.size); have c0 := laterC hb1 c0; have c1 := laterC hb1 c1)
    | (go_at_call 8; (with_reducible refine (HW.out _ (HRD.out.late (by first | exact tb | exact tb.alloc tb.size _))).mono ?_); rintro e w2 ⟨rfl, hb2⟩; have tb := tb.trans (hb2.mono tb.size); have c0 := laterC hb2 c0; have c1 := laterC hb2 c1)
    | (go_at_call 9; (with_reducible refine (HR.out _ (HRD.out.late (by first | exact tb | exact tb.alloc tb.size _))).mono ?_); rintro e w3 ⟨rfl, hb3⟩; have tb := tb.trans (hb3.mono tb.size); have c0 := laterC hb3 c0; have c1 := laterC hb3 c1; have c0n := laterA (.cells #[.int .i64 0, .int .i64 0] 23) c0; have c1n := laterA (.cells #[.int .i64 0, .int .i64 0] 23) c1)
    | (go_at_call 10; (with_reducible refine (HRt.out _).mono ?_); rintro e w4 ⟨rfl, hb4⟩; have tb := tb.alloc tb.size (.cells #[.int .i64 0, .int .i64 0] 23); have tb := tb.trans (hb4.mono tb.size); have c0 := laterC hb4 (laterA _ c0); have c1 := laterC hb4 (laterA _ c1); have d0 : w4.cell? ⟨w3.heap.size, 0, none⟩ = some (.int .i64 0) := laterC hb4 (by simp); have d1 : w4.cell? ⟨w3.heap.size, 1, none⟩ = some (.int .i64 0) := laterC hb4 (by simp))
    | (go_at_call 9; (with_reducible refine (HR2.out _ (HRD.out.late (by first | exact tb | exact tb.alloc tb.size _))).mono ?_); rintro e w6 ⟨rfl, hb6⟩; have tb := tb.trans (hb6.mono tb.size); have c0 := laterC hb6 c0; have c1 := laterC hb6 c1; have d0 := laterC hb6 d0; have d1 := laterC hb6 d1)
    | (go_at_call 8; (with_reducible refine (HW2.out _ (HRD.out.late (by first | exact tb | exact tb.alloc tb.size _))).mono ?_); rintro e w7 ⟨rfl, hb7⟩; have tb := tb.alloc tb.size (.cells #[.int .i64 a, .int .i64 b] 23); have tb := tb.trans (hb7.mono tb.size); have c0 := laterC hb7 (laterA _ c0); have c1 := laterC hb7 (laterA _ c1); have d0 := laterC hb7 (laterA _ d0); have d1 := laterC hb7 (laterA _ d1); have g0 : w7.cell? ⟨w6.heap.size, 0, none⟩ = some (.int .i64 a) := laterC hb7 (by simp); have g1 : w7.cell? ⟨w6.heap.size, 1, none⟩ = some (.int .i64 b) := laterC hb7 (by simp))
    | (go_at_call 9; (with_reducible refine (HR3.out _ (HRD.out.late (by first | exact tb | exact tb.alloc tb.size _))).mono ?_); rintro e w8 ⟨rfl, hb8⟩; have tb := tb.trans (hb8.mono tb.size); have c0 := laterC hb8 c0; have c1 := laterC hb8 c1; have d0 := laterC hb8 d0; have d1 := laterC hb8 d1; have g0 := laterC hb8 g0; have g1 := laterC hb8 g1; have c0n := laterA (.cells #[.int .i64 a, .int .i64 b] 23) c0; have c1n := laterA (.cells #[.int .i64 a, .int .i64 b] 23) c1; have d0n := laterA (.cells #[.int .i64 a, .int .i64 b] 23) d0; have d1n := laterA (.cells #[.int .i64 a, .int .i64 b] 23) d1; have g0n := laterA (.cells #[.int .i64 a, .int .i64 b] 23) g0; have g1n := laterA (.cells #[.int .i64 a, .int .i64 b] 23) g1)
    | (go_at_call 10; (with_reducible refine (HRt2.out _).mono ?_); rintro e w9 ⟨rfl, hb9⟩; have tb := tb.alloc tb.size (.cells #[.int .i64 a, .int .i64 b] 23); have tb := tb.trans (hb9.mono tb.size); have c0 := laterC hb9 (laterA _ c0); have c1 := laterC hb9 (laterA _ c1); have d0 := laterC hb9 (laterA _ d0); have d1 := laterC hb9 (laterA _ d1); have g0 := laterC hb9 (laterA _ g0); have g1 := laterC hb9 (laterA _ g1); have x0 : w9.cell? ⟨w8.heap.size, 0, none⟩ = some (.int .i64 a) := laterC hb9 (by simp); have x1 : w9.cell? ⟨w8.heap.size, 1, none⟩ = some (.int .i64 b) := laterC hb9 (by simp)))
  go_ret
  exact ⟨rfl, HB0.out.trans (tb.mono HB0.out.size)⟩
set_option maxHeartbeats 4000000 in
set_option maxRecDepth 100000 in
theorem back_N0_none (u z : Int) (s : ByteArray) (w : World) (h : Rd7 w) (hs : s.size ≤ 300) (hr : rightL u z = false) (hrs : readL s.data.toList = none) :
    Calls Tryd.prog 3 #[.agg #[.int .i64 u, .int .i64 z], .string s] w (Truth7 w) := by
  unfold Truth7
  have hb0 : Below w.heap.size w (w.alloc (.cells #[.int .i64 u, .int .i64 z] 23)) := (Below.refl _ _).alloc (Nat.le_refl _) _
  have c0 : (w.alloc (.cells #[.int .i64 u, .int .i64 z] 23)).cell? ⟨w.heap.size, 0, none⟩ = some (.int .i64 u) := by simp
  have c1 : (w.alloc (.cells #[.int .i64 u, .int .i64 z] 23)).cell? ⟨w.heap.size, 1, none⟩ = some (.int .i64 z) := by simp
  have hS := fun (w : World) h => small7_any w h
  unfold Truth7 at hS
  have hRt := fun w => right_any u z w
  have hP := fun w => part1_any u z w
  have hW := fun w h => write_any u z w h
  have hy : partL u z 1 = 0 := by unfold partL; rw [hr]; rfl
  have hwe : writeL u z = [] := by unfold writeL; rw [if_pos hy]
  rw [hr] at hRt
  rw [hwe] at hW
  have hW : ∀ w, Rd7 w → Calls Tryd.prog 8 #[.agg #[.int .i64 u, .int .i64 z]] w fun e w' => e = .returned (.string ⟨#[]⟩) ∧ Below w.heap.size w w' := hW
  have hR := fun w h => read_none ⟨#[]⟩ w h (by decide) rd_emp
  clear hwe hy hr
  have hR2 := fun w h => read_none s w h (by omega) hrs
  clear hrs
  have HS := Lib.hid hS
  have HW := Lib.hid hW
  have HR := Lib.hid hR
  have HRt := Lib.hid hRt
  have HR2 := Lib.hid hR2
  have q300 : decide ((300 : Int) < (s.size : Int)) = false := decide_eq_false (by omega)
  have HRD := Lib.hid (h.late hb0)
  have HB0 := Lib.hid hb0
  have tb := Below.refl (w.alloc (.cells #[.int .i64 u, .int .i64 z] 23)).heap.size (w.alloc (.cells #[.int .i64 u, .int .i64 z] 23))
  clear h hb0 hS hW hR hRt hR2 hP
  go_enter Tryd.func3, Tryd.ntmps3
  go_wp2_with (first
    | (go_at_call 7; (with_reducible refine (HS.out _ (HRD.out.late (by first | exact tb | exact tb.alloc tb.size _))).mono ?_); rintro e w1 ⟨rfl, hb1⟩; have tb := tb.trans (hb1.mono tb.size); have c0 := laterC hb1 c0; have c1 := laterC hb1 c1)
    | (go_at_call 8; (with_reducible refine (HW.out _ (HRD.out.late (by first | exact tb | exact tb.alloc tb.size _))).mono ?_); rintro e w2 ⟨rfl, hb2⟩; have tb := tb.trans (hb2.mono tb.size); have c0 := laterC hb2 c0; have c1 := laterC hb2 c1)
    | (go_at_call 9; (with_reducible refine (HR.out _ (HRD.out.late (by first | exact tb | exact tb.alloc tb.size _))).mono ?_); rintro e w3 ⟨rfl, hb3⟩; have tb := tb.trans (hb3.mono tb.size); have c0 := laterC hb3 c0; have c1 := laterC hb3 c1; have c0n := laterA (.cells #[.int .i64 0, .int .i64 0] 23) c0; have c1n := laterA (.cells #[.int .i64 0, .int .i64 0] 23) c1)
    | (go_at_call 10; (with_reducible refine (HRt.out _).mono ?_); rintro e w4 ⟨rfl, hb4⟩; have tb := tb.alloc tb.size (.cells #[.int .i64 0, .int .i64 0] 23); have tb := tb.trans (hb4.mono tb.size); have c0 := laterC hb4 (laterA _ c0); have c1 := laterC hb4 (laterA _ c1); have d0 : w4.cell? ⟨w3.heap.size, 0, none⟩ = some (.int .i64 0) := laterC hb4 (by simp); have d1 : w4.cell? ⟨w3.heap.size, 1, none⟩ = some (.int .i64 0) := laterC hb4 (by simp))
    | (go_at_call 9; (with_reducible refine (HR2.out _ (HRD.out.late (by first | exact tb | exact tb.alloc tb.size _))).mono ?_); rintro e w6 ⟨rfl, hb6⟩; have tb := tb.trans (hb6.mono tb.size); have c0 := laterC hb6 c0; have c1 := laterC hb6 c1; have d0 := laterC hb6 d0; have d1 := laterC hb6 d1))
  go_ret
  exact ⟨rfl, HB0.out.trans ((tb.alloc tb.size _).mono HB0.out.size)⟩
set_option maxRecDepth 100000 in
theorem dateBack_any (u z : Int) (s : ByteArray) (w : World) (h : Rd7 w) : Calls Tryd.prog 3 #[.agg #[.int .i64 u, .int .i64 z], .string s] w (Truth7 w) := by
  by_cases hs : s.size ≤ 300
  · by_cases hy : partL u z 1 = 0
    · cases hr : rightL u z with
      | true =>
        cases hrs : readL s.data.toList with
        | none => exact back_N1_none u z s w h hs hy hr hrs
        | some p => exact back_N1_some u z s w h hs hy hr p.1 p.2 hrs
      | false =>
        cases hrs : readL s.data.toList with
        | none => exact back_N0_none u z s w h hs hr hrs
        | some p => exact back_N0_some u z s w h hs hr p.1 p.2 hrs
    · cases hrs : readL s.data.toList with
      | none => exact back_P_none u z s w h hs hy hrs
      | some p => exact back_P_some u z s w h hs hy p.1 p.2 hrs
  · have hb0 : Below w.heap.size w (w.alloc (.cells #[.int .i64 u, .int .i64 z] 23)) := (Below.refl _ _).alloc (Nat.le_refl _) _
    have hS := small7_any _ (h.late hb0)
    unfold Truth7 at hS ⊢
    have HS := Lib.hid hS
    have HB0 := Lib.hid hb0
    have q300 : decide ((300 : Int) < (s.size : Int)) = true := decide_eq_true (by omega)
    clear hS h hb0 hs
    go_enter Tryd.func3, Tryd.ntmps3
    go_wp2_with (go_at_call 7; (with_reducible refine HS.out.mono ?_); rintro e w1 ⟨rfl, hb1⟩)
    go_ret
    exact ⟨rfl, HB0.out.trans (hb1.mono HB0.out.size)⟩
end Go.Proofs.YtlgnhngbmciaoaaDoor
