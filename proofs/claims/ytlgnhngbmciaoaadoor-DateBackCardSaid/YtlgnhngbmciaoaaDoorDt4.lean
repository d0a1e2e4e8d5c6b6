/- Walks: dates: Part at 7, 8, 9. -/
import Derived.Test.YtlgnhngbmciaoaaDoorDt1
import Derived.RegionCalls
import Derived.Deep.RegionWith
import Derived.Deep.RegionHeld3
import Derived.Deep.MidRow
import Derived.StillTailTactics
namespace Go.Proofs.YtlgnhngbmciaoaaDoor
open Go.RowKit Pk Dt

set_option maxHeartbeats 4000000 in
set_option maxRecDepth 100000 in
theorem part7_any (u z : Int) (w : World) :
    Calls Tryd.prog 11 #[.agg #[.int .i64 u, .int .i64 z], .int .i64 7] w fun e w' => e = .returned (.int .i64 (partL u z 7)) ∧ Below w.heap.size w w' := by
  have hR := fun w => right_any u z w
  cases hr : rightL u z with
  | false =>
    rw [hr] at hR
    have HR := Lib.hid hR
    have hp : partL u z 7 = 0 := by unfold partL; rw [if_neg (by rw [hr]; decide)]
    rw [hp]
    have tb := (Below.refl w.heap.size w).alloc (Nat.le_refl _) (.cells #[.int .i64 u, .int .i64 z] 23)
    clear hR hr hp
    go_enter Tryd.func11, Tryd.ntmps11
    go_wp2_with (go_at_call 10; (with_reducible refine (HR.out _).mono ?_); rintro e w1 ⟨rfl, hb1⟩; have tb := tb.trans (hb1.mono tb.size))
    go_ret
    exact ⟨rfl, tb⟩
  | true =>
    obtain ⟨r1, r2, r3, r4⟩ := (right_iff u z).1 hr
    rw [hr] at hR
    have HR := Lib.hid hR
    have hp : partL u z 7 = wkL (locD u z) := by unfold partL; rw [if_pos hr]; rfl
    rw [hp]
    have hD := fun w => div86400_any (u + 60 * z) w (by omega) (by omega)
    have e1 : (u + 60 * z) / 86400 = locD u z := rfl
    have e2 : (u + 60 * z) % 86400 = locS u z := rfl
    obtain ⟨-, s2, s3⟩ := secs u z
    have b1 : -1000000 ≤ locD u z ∧ locD u z ≤ 4000000 := by unfold locD; omega
    rw [e1, e2] at hD
    have hV := fun w => civil_any (locD u z) w
    have hW := fun w => week_d (locD u z) w (by omega) (by omega)
    generalize locD u z = n at *
    generalize locS u z = s at *
    generalize civL n = x at *
    obtain ⟨xy, xm, xd⟩ := x
    generalize wkL n = wk at *
    have t1 : s.tdiv 3600 = s / 3600 := td s2 _
    have t2 : s.tdiv 60 = s / 60 := td s2 _
    have t3 : (s / 60).tmod 60 = s / 60 % 60 := Int.tmod_eq_emod_of_nonneg (by omega)
    have t4 : s.tmod 60 = s % 60 := Int.tmod_eq_emod_of_nonneg s2
    have v1 : IntKind.i64.wrap (s / 3600) = s / 3600 := w64 rfl (by omega) (by omega)
    have v2 : IntKind.i64.wrap (s / 60) = s / 60 := w64 rfl (by omega) (by omega)
    have v3 : IntKind.i64.wrap (s / 60 % 60) = s / 60 % 60 := w64 rfl (by omega) (by omega)
    have v4 : IntKind.i64.wrap (s % 60) = s % 60 := w64 rfl (by omega) (by omega)
    have HD := Lib.hid hD
    have HV := Lib.hid hV
    have HW := Lib.hid hW
    have hk0 : (w.alloc (.cells #[.int .i64 u, .int .i64 z] 23)).heap[w.heap.size]? = some (.cells #[.int .i64 u, .int .i64 z] 23 (0, 0)) := heap_alloc_new w _
    have tb := (Below.refl w.heap.size w).alloc (Nat.le_refl _) (.cells #[.int .i64 u, .int .i64 z] 23)
    have ub := Below.refl (w.alloc (.cells #[.int .i64 u, .int .i64 z] 23)).heap.size (w.alloc (.cells #[.int .i64 u, .int .i64 z] 23))
    have hz0 : w.heap.size < (w.alloc (.cells #[.int .i64 u, .int .i64 z] 23)).heap.size := by simp
    clear hR hr hp hD hV hW e1 e2
    go_enter Tryd.func11, Tryd.ntmps11
    go_wp2_with (first
      | (go_at_call 10; (with_reducible refine (HR.out _).mono ?_); rintro e w1 ⟨rfl, hb1⟩; have ub := ub.trans (hb1.mono ub.size); have tb := tb.trans (hb1.mono tb.size); have hk1 := (hb1.block _ hz0).trans hk0; have c0 : w1.cell? ⟨w.heap.size, 0, none⟩ = some (.int .i64 u) := (Lib.cell_of_heap hk1 0).trans rfl; have c1 : w1.cell? ⟨w.heap.size, 1, none⟩ = some (.int .i64 z) := (Lib.cell_of_heap hk1 1).trans rfl; have hz1 := lt_of_block hk1)
      | (go_at_call 28; (with_reducible refine (HD.out _).mono ?_); rintro e w2 ⟨rfl, hb2⟩; have tb := tb.trans (hb2.mono tb.size); have hk2 := (hb2.block _ hz1).trans hk1; have hz2 := lt_of_block hk2)
      | (go_at_call 12; (with_reducible refine (HV.out _).mono ?_); rintro e w3 ⟨rfl, hb3⟩; have tb := tb.trans (hb3.mono tb.size); have hk3 := (hb3.block _ hz2).trans hk2; have c3 : w3.cell? ⟨w.heap.size, 1, none⟩ = some (.int .i64 z) := (Lib.cell_of_heap hk3 1).trans rfl; have hz3 := lt_of_block hk3))
    go_region_with (go_at_call 14; (with_reducible refine (HW.out _).mono ?_); rintro e w4 ⟨rfl, rfl⟩)
    all_goals
      go_wp2
      go_ret
      exact ⟨rfl, (tb.alloc tb.size _).drew.drew⟩
set_option maxHeartbeats 4000000 in
set_option maxRecDepth 100000 in
theorem part8_any (u z : Int) (w : World) :
    Calls Tryd.prog 11 #[.agg #[.int .i64 u, .int .i64 z], .int .i64 8] w fun e w' => e = .returned (.int .i64 (partL u z 8)) ∧ Below w.heap.size w w' := by
  have hR := fun w => right_any u z w
  cases hr : rightL u z with
  | false =>
    rw [hr] at hR
    have HR := Lib.hid hR
    have hp : partL u z 8 = 0 := by unfold partL; rw [if_neg (by rw [hr]; decide)]
    rw [hp]
    have tb := (Below.refl w.heap.size w).alloc (Nat.le_refl _) (.cells #[.int .i64 u, .int .i64 z] 23)
    clear hR hr hp
    go_enter Tryd.func11, Tryd.ntmps11
    go_wp2_with (go_at_call 10; (with_reducible refine (HR.out _).mono ?_); rintro e w1 ⟨rfl, hb1⟩; have tb := tb.trans (hb1.mono tb.size))
    go_ret
    exact ⟨rfl, tb⟩
  | true =>
    obtain ⟨r1, r2, r3, r4⟩ := (right_iff u z).1 hr
    rw [hr] at hR
    have HR := Lib.hid hR
    have hp : partL u z 8 = z := by unfold partL; rw [if_pos hr]; rfl
    rw [hp]
    have hD := fun w => div86400_any (u + 60 * z) w (by omega) (by omega)
    have e1 : (u + 60 * z) / 86400 = locD u z := rfl
    have e2 : (u + 60 * z) % 86400 = locS u z := rfl
    obtain ⟨-, s2, s3⟩ := secs u z
    have b1 : -1000000 ≤ locD u z ∧ locD u z ≤ 4000000 := by unfold locD; omega
    rw [e1, e2] at hD
    have hV := fun w => civil_any (locD u z) w
    have hW := fun w => week_d (locD u z) w (by omega) (by omega)
    generalize locD u z = n at *
    generalize locS u z = s at *
    generalize civL n = x at *
    obtain ⟨xy, xm, xd⟩ := x
    generalize wkL n = wk at *
    have t1 : s.tdiv 3600 = s / 3600 := td s2 _
    have t2 : s.tdiv 60 = s / 60 := td s2 _
    have t3 : (s / 60).tmod 60 = s / 60 % 60 := Int.tmod_eq_emod_of_nonneg (by omega)
    have t4 : s.tmod 60 = s % 60 := Int.tmod_eq_emod_of_nonneg s2
    have v1 : IntKind.i64.wrap (s / 3600) = s / 3600 := w64 rfl (by omega) (by omega)
    have v2 : IntKind.i64.wrap (s / 60) = s / 60 := w64 rfl (by omega) (by omega)
    have v3 : IntKind.i64.wrap (s / 60 % 60) = s / 60 % 60 := w64 rfl (by omega) (by omega)
    have v4 : IntKind.i64.wrap (s % 60) = s % 60 := w64 rfl (by omega) (by omega)
    have HD := Lib.hid hD
    have HV := Lib.hid hV
    have HW := Lib.hid hW
    have hk0 : (w.alloc (.cells #[.int .i64 u, .int .i64 z] 23)).heap[w.heap.size]? = some (.cells #[.int .i64 u, .int .i64 z] 23 (0, 0)) := heap_alloc_new w _
    have tb := (Below.refl w.heap.size w).alloc (Nat.le_refl _) (.cells #[.int .i64 u, .int .i64 z] 23)
    have ub := Below.refl (w.alloc (.cells #[.int .i64 u, .int .i64 z] 23)).heap.size (w.alloc (.cells #[.int .i64 u, .int .i64 z] 23))
    have hz0 : w.heap.size < (w.alloc (.cells #[.int .i64 u, .int .i64 z] 23)).heap.size := by simp
    clear hR hr hp hD hV hW e1 e2
    go_enter Tryd.func11, Tryd.ntmps11
    go_wp2_with (first
      | (go_at_call 10; (with_reducible refine (HR.out _).mono ?_); rintro e w1 ⟨rfl, hb1⟩; have ub := ub.trans (hb1.mono ub.size); have tb := tb.trans (hb1.mono tb.size); have hk1 := (hb1.block _ hz0).trans hk0; have c0 : w1.cell? ⟨w.heap.size, 0, none⟩ = some (.int .i64 u) := (Lib.cell_of_heap hk1 0).trans rfl; have c1 : w1.cell? ⟨w.heap.size, 1, none⟩ = some (.int .i64 z) := (Lib.cell_of_heap hk1 1).trans rfl; have hz1 := lt_of_block hk1)
      | (go_at_call 28; (with_reducible refine (HD.out _).mono ?_); rintro e w2 ⟨rfl, hb2⟩; have tb := tb.trans (hb2.mono tb.size); have hk2 := (hb2.block _ hz1).trans hk1; have hz2 := lt_of_block hk2)
      | (go_at_call 12; (with_reducible refine (HV.out _).mono ?_); rintro e w3 ⟨rfl, hb3⟩; have tb := tb.trans (hb3.mono tb.size); have hk3 := (hb3.block _ hz2).trans hk2; have c3 : w3.cell? ⟨w.heap.size, 1, none⟩ = some (.int .i64 z) := (Lib.cell_of_heap hk3 1).trans rfl; have hz3 := lt_of_block hk3))
    go_region_with (go_at_call 14; (with_reducible refine (HW.out _).mono ?_); rintro e w4 ⟨rfl, rfl⟩)
    all_goals
      go_wp2
      go_ret
      exact ⟨rfl, (tb.alloc tb.size _).drew.drew⟩
set_option maxHeartbeats 4000000 in
set_option maxRecDepth 100000 in
theorem part9_any (u z : Int) (w : World) :
    Calls Tryd.prog 11 #[.agg #[.int .i64 u, .int .i64 z], .int .i64 9] w fun e w' => e = .returned (.int .i64 (partL u z 9)) ∧ Below w.heap.size w w' := by
  have hR := fun w => right_any u z w
  cases hr : rightL u z with
  | false =>
    rw [hr] at hR
    have HR := Lib.hid hR
    have hp : partL u z 9 = 0 := by unfold partL; rw [if_neg (by rw [hr]; decide)]
    rw [hp]
    have tb := (Below.refl w.heap.size w).alloc (Nat.le_refl _) (.cells #[.int .i64 u, .int .i64 z] 23)
    clear hR hr hp
    go_enter Tryd.func11, Tryd.ntmps11
    go_wp2_with (go_at_call 10; (with_reducible refine (HR.out _).mono ?_); rintro e w1 ⟨rfl, hb1⟩; have tb := tb.trans (hb1.mono tb.size))
    go_ret
    exact ⟨rfl, tb⟩
  | true =>
    obtain ⟨r1, r2, r3, r4⟩ := (right_iff u z).1 hr
    rw [hr] at hR
    have HR := Lib.hid hR
    have hp : partL u z 9 = 0 := by unfold partL; rw [if_pos hr]; rfl
    rw [hp]
    have hD := fun w => div86400_any (u + 60 * z) w (by omega) (by omega)
    have e1 : (u + 60 * z) / 86400 = locD u z := rfl
    have e2 : (u + 60 * z) % 86400 = locS u z := rfl
    obtain ⟨-, s2, s3⟩ := secs u z
    have b1 : -1000000 ≤ locD u z ∧ locD u z ≤ 4000000 := by unfold locD; omega
    rw [e1, e2] at hD
    have hV := fun w => civil_any (locD u z) w
    have hW := fun w => week_d (locD u z) w (by omega) (by omega)
    generalize locD u z = n at *
    generalize locS u z = s at *
    generalize civL n = x at *
    obtain ⟨xy, xm, xd⟩ := x
    generalize wkL n = wk at *
    have t1 : s.tdiv 3600 = s / 3600 := td s2 _
    have t2 : s.tdiv 60 = s / 60 := td s2 _
    have t3 : (s / 60).tmod 60 = s / 60 % 60 := Int.tmod_eq_emod_of_nonneg (by omega)
    have t4 : s.tmod 60 = s % 60 := Int.tmod_eq_emod_of_nonneg s2
    have v1 : IntKind.i64.wrap (s / 3600) = s / 3600 := w64 rfl (by omega) (by omega)
    have v2 : IntKind.i64.wrap (s / 60) = s / 60 := w64 rfl (by omega) (by omega)
    have v3 : IntKind.i64.wrap (s / 60 % 60) = s / 60 % 60 := w64 rfl (by omega) (by omega)
    have v4 : IntKind.i64.wrap (s % 60) = s % 60 := w64 rfl (by omega) (by omega)
    have HD := Lib.hid hD
    have HV := Lib.hid hV
    have HW := Lib.hid hW
    have hk0 : (w.alloc (.cells #[.int .i64 u, .int .i64 z] 23)).heap[w.heap.size]? = some (.cells #[.int .i64 u, .int .i64 z] 23 (0, 0)) := heap_alloc_new w _
    have tb := (Below.refl w.heap.size w).alloc (Nat.le_refl _) (.cells #[.int .i64 u, .int .i64 z] 23)
    have ub := Below.refl (w.alloc (.cells #[.int .i64 u, .int .i64 z] 23)).heap.size (w.alloc (.cells #[.int .i64 u, .int .i64 z] 23))
    have hz0 : w.heap.size < (w.alloc (.cells #[.int .i64 u, .int .i64 z] 23)).heap.size := by simp
    clear hR hr hp hD hV hW e1 e2
    go_enter Tryd.func11, Tryd.ntmps11
    go_wp2_with (first
      | (go_at_call 10; (with_reducible refine (HR.out _).mono ?_); rintro e w1 ⟨rfl, hb1⟩; have ub := ub.trans (hb1.mono ub.size); have tb := tb.trans (hb1.mono tb.size); have hk1 := (hb1.block _ hz0).trans hk0; have c0 : w1.cell? ⟨w.heap.size, 0, none⟩ = some (.int .i64 u) := (Lib.cell_of_heap hk1 0).trans rfl; have c1 : w1.cell? ⟨w.heap.size, 1, none⟩ = some (.int .i64 z) := (Lib.cell_of_heap hk1 1).trans rfl; have hz1 := lt_of_block hk1)
      | (go_at_call 28; (with_reducible refine (HD.out _).mono ?_); rintro e w2 ⟨rfl, hb2⟩; have tb := tb.trans (hb2.mono tb.size); have hk2 := (hb2.block _ hz1).trans hk1; have hz2 := lt_of_block hk2)
      | (go_at_call 12; (with_reducible refine (HV.out _).mono ?_); rintro e w3 ⟨rfl, hb3⟩; have tb := tb.trans (hb3.mono tb.size); have hk3 := (hb3.block _ hz2).trans hk2; have c3 : w3.cell? ⟨w.heap.size, 1, none⟩ = some (.int .i64 z) := (Lib.cell_of_heap hk3 1).trans rfl; have hz3 := lt_of_block hk3))
    go_region_with (go_at_call 14; (with_reducible refine (HW.out _).mono ?_); rintro e w4 ⟨rfl, rfl⟩)
    all_goals
      go_wp2
      go_ret
      exact ⟨rfl, (tb.alloc tb.size _).drew.drew⟩
end Go.Proofs.YtlgnhngbmciaoaaDoor
