/- Walks: the law DateDays. -/
import Derived.Test.YtlgnhngbmciaoaaDoorDtS7
namespace Go.Proofs.YtlgnhngbmciaoaaDoor
open Go.RowKit Pk Dt

set_option maxHeartbeats 4000000 in
set_option maxRecDepth 100000 in
theorem dateDays_any (n : Int) (w : World) (h : Rd7 w) : Calls Tryd.prog 4 #[.int .i64 n] w (Truth7 w) := by
  have hS := small7_any w h
  unfold Truth7 at hS ⊢
  have HS := Lib.hid hS
  have tb := Below.refl w.heap.size w
  clear hS h
  by_cases hin : -719162 ≤ n ∧ n ≤ 2932896
  · obtain ⟨i1, i2⟩ := hin
    have q1 : decide (n < -719162) = false := decide_eq_false (by omega)
    have q2 : decide (2932896 < n) = false := decide_eq_false (by omega)
    obtain ⟨ho, hday⟩ := civ_day i1 i2
    have hnx : n < 2932896 → civL (n + 1) = nextD (civL n) := fun h => civ_next i1 h
    have hV := fun w => civil_any n w
    have hV2 := fun w => civil_any (n + 1) w
    have hk := wk_next n
    obtain ⟨k0, k6⟩ := wk_rng n
    have hK := fun w => week_any n w (by omega) (by omega)
    have hK2 := fun w => week_any (n + 1) w (by omega) (by omega)
    rw [hk] at hK2
    generalize wkL n = k at *
    have hml : (civL n).d < mlen (civL n).y (civL n).m ∨ 28 ≤ (civL n).d := by
      have := mlen_ge (civL n).y (civL n).m
      omega
    have hcs := next_cases (civL n)
    generalize civL n = x at *
    obtain ⟨y, m, d⟩ := x
    obtain ⟨o1, o2, o3, o4, o5, o6⟩ := ho
    simp only at *
    have o7 := mlen_le y m
    have o8 : d ≤ 31 := by omega
    have hD := fun w => days_any y m d w
    rw [hday] at hD
    have kt : (k + 1).tmod 7 = (k + 1) % 7 := Int.tmod_eq_emod_of_nonneg (by omega)
    have HD := Lib.hid hD
    have HK := Lib.hid hK
    have HK2 := Lib.hid hK2
    have HV := Lib.hid hV
    have hD2 := fun w => days_any y m (d + 1) w
    have hov := fun (hh : ¬ d < mlen y m) => over_none (y := y) (m := m) (d := d) hh
    have e1 : (y == y + 1) = false := beq_eq_false_iff_ne.2 (by omega)
    have e2 : (m == m + 1) = false := beq_eq_false_iff_ne.2 (by omega)
    have e3 : (y + 1 == y) = false := beq_eq_false_iff_ne.2 (by omega)
    have e4 : (m + 1 == m) = false := beq_eq_false_iff_ne.2 (by omega)
    have q4 : (n != n) = false := by rw [bne, beq_iff_eq.2 rfl]; rfl
    clear hk hday hD hK hK2 hV
    by_cases hlast : n = 2932896
    · have q3 : (n == 2932896) = true := beq_iff_eq.2 hlast
      rw [civL_out (by omega)] at hV2
      have HV2 := Lib.hid hV2
      have HD2 := Lib.hid hD2
      have hl : 2932896 ≤ n := by omega
      clear hV2 hnx hcs hov hml o6 hlast hD2
      go_enter Tryd.func4, Tryd.ntmps4
      go_wp2_with (first
        | (go_at_call 7; (with_reducible refine HS.out.mono ?_); rintro e w1 ⟨rfl, hb1⟩; have tb := tb.trans (hb1.mono tb.size))
        | (go_at_call 12; (with_reducible refine (HV.out _).mono ?_); rintro e w1 ⟨rfl, hb1⟩; have tb := tb.trans (hb1.mono tb.size))
        | (go_at_call 12; (with_reducible refine (HV2.out _).mono ?_); rintro e w1 ⟨rfl, hb1⟩; have tb := tb.trans (hb1.mono tb.size))
        | (go_at_call 13; (with_reducible refine (HD.out _).mono ?_); rintro e w1 ⟨rfl, hb1⟩; have tb := tb.trans (hb1.mono tb.size))
        | (go_at_call 13; (with_reducible refine (HD2.out _).mono ?_); rintro e w1 ⟨rfl, hb1⟩; have tb := tb.trans (hb1.mono tb.size))
        | (go_at_call 14; (with_reducible refine (HK.out _).mono ?_); rintro e w1 ⟨rfl, hb1⟩; have tb := tb.trans (hb1.mono tb.size))
        | (go_at_call 14; (with_reducible refine (HK2.out _).mono ?_); rintro e w1 ⟨rfl, hb1⟩; have tb := tb.trans (hb1.mono tb.size)))
      go_ret
      exact ⟨rfl, tb⟩
    · have q3 : (n == 2932896) = false := beq_eq_false_iff_ne.2 hlast
      rw [hnx (by omega)] at hV2
      rcases hcs with ⟨c1, c2⟩ | ⟨c1, c2, c3⟩ | ⟨c1, c2, c3⟩
      · rw [c2] at hV2
        have HV2 := Lib.hid hV2
        have HD2 := Lib.hid hD2
        clear hV2 hnx hov hml o6 hlast c2 hD2 c1
        go_enter Tryd.func4, Tryd.ntmps4
        go_wp2_with (first
          | (go_at_call 7; (with_reducible refine HS.out.mono ?_); rintro e w1 ⟨rfl, hb1⟩; have tb := tb.trans (hb1.mono tb.size))
          | (go_at_call 12; (with_reducible refine (HV.out _).mono ?_); rintro e w1 ⟨rfl, hb1⟩; have tb := tb.trans (hb1.mono tb.size))
          | (go_at_call 12; (with_reducible refine (HV2.out _).mono ?_); rintro e w1 ⟨rfl, hb1⟩; have tb := tb.trans (hb1.mono tb.size))
          | (go_at_call 13; (with_reducible refine (HD.out _).mono ?_); rintro e w1 ⟨rfl, hb1⟩; have tb := tb.trans (hb1.mono tb.size))
          | (go_at_call 13; (with_reducible refine (HD2.out _).mono ?_); rintro e w1 ⟨rfl, hb1⟩; have tb := tb.trans (hb1.mono tb.size))
          | (go_at_call 14; (with_reducible refine (HK.out _).mono ?_); rintro e w1 ⟨rfl, hb1⟩; have tb := tb.trans (hb1.mono tb.size))
          | (go_at_call 14; (with_reducible refine (HK2.out _).mono ?_); rintro e w1 ⟨rfl, hb1⟩; have tb := tb.trans (hb1.mono tb.size)))
        go_ret
        exact ⟨rfl, tb⟩
      · rw [c3] at hV2
        have h28 : 28 ≤ d := by omega
        rw [hov c1] at hD2
        have HV2 := Lib.hid hV2
        have HD2 := Lib.hid hD2
        clear hV2 hnx hov hml o6 hlast c3 hD2 c1
        go_enter Tryd.func4, Tryd.ntmps4
        go_wp2_with (first
          | (go_at_call 7; (with_reducible refine HS.out.mono ?_); rintro e w1 ⟨rfl, hb1⟩; have tb := tb.trans (hb1.mono tb.size))
          | (go_at_call 12; (with_reducible refine (HV.out _).mono ?_); rintro e w1 ⟨rfl, hb1⟩; have tb := tb.trans (hb1.mono tb.size))
          | (go_at_call 12; (with_reducible refine (HV2.out _).mono ?_); rintro e w1 ⟨rfl, hb1⟩; have tb := tb.trans (hb1.mono tb.size))
          | (go_at_call 13; (with_reducible refine (HD.out _).mono ?_); rintro e w1 ⟨rfl, hb1⟩; have tb := tb.trans (hb1.mono tb.size))
          | (go_at_call 13; (with_reducible refine (HD2.out _).mono ?_); rintro e w1 ⟨rfl, hb1⟩; have tb := tb.trans (hb1.mono tb.size))
          | (go_at_call 14; (with_reducible refine (HK.out _).mono ?_); rintro e w1 ⟨rfl, hb1⟩; have tb := tb.trans (hb1.mono tb.size))
          | (go_at_call 14; (with_reducible refine (HK2.out _).mono ?_); rintro e w1 ⟨rfl, hb1⟩; have tb := tb.trans (hb1.mono tb.size)))
        go_ret
        exact ⟨rfl, tb⟩
      · rw [c3] at hV2
        have h28 : 28 ≤ d := by omega
        have q5 : (m == 12) = true := beq_iff_eq.2 (by omega)
        rw [hov c1] at hD2
        have HV2 := Lib.hid hV2
        have HD2 := Lib.hid hD2
        clear hV2 hnx hov hml o6 hlast c3 hD2 c1
        go_enter Tryd.func4, Tryd.ntmps4
        go_wp2_with (first
          | (go_at_call 7; (with_reducible refine HS.out.mono ?_); rintro e w1 ⟨rfl, hb1⟩; have tb := tb.trans (hb1.mono tb.size))
          | (go_at_call 12; (with_reducible refine (HV.out _).mono ?_); rintro e w1 ⟨rfl, hb1⟩; have tb := tb.trans (hb1.mono tb.size))
          | (go_at_call 12; (with_reducible refine (HV2.out _).mono ?_); rintro e w1 ⟨rfl, hb1⟩; have tb := tb.trans (hb1.mono tb.size))
          | (go_at_call 13; (with_reducible refine (HD.out _).mono ?_); rintro e w1 ⟨rfl, hb1⟩; have tb := tb.trans (hb1.mono tb.size))
          | (go_at_call 13; (with_reducible refine (HD2.out _).mono ?_); rintro e w1 ⟨rfl, hb1⟩; have tb := tb.trans (hb1.mono tb.size))
          | (go_at_call 14; (with_reducible refine (HK.out _).mono ?_); rintro e w1 ⟨rfl, hb1⟩; have tb := tb.trans (hb1.mono tb.size))
          | (go_at_call 14; (with_reducible refine (HK2.out _).mono ?_); rintro e w1 ⟨rfl, hb1⟩; have tb := tb.trans (hb1.mono tb.size)))
        go_ret
        exact ⟨rfl, tb⟩
  · have hV := fun w => civil_any n w
    rw [civL_out hin] at hV
    have HV := Lib.hid hV
    clear hV
    by_cases h1 : n < -719162
    · have q1 : decide (n < -719162) = true := decide_eq_true h1
      clear hin
      go_enter Tryd.func4, Tryd.ntmps4
      go_wp2_with (first | (go_at_call 7; (with_reducible refine HS.out.mono ?_); rintro e w1 ⟨rfl, hb1⟩; have tb := tb.trans (hb1.mono tb.size)) | (go_at_call 12; (with_reducible refine (HV.out _).mono ?_); rintro e w1 ⟨rfl, hb1⟩; have tb := tb.trans (hb1.mono tb.size)))
      go_ret
      exact ⟨rfl, tb⟩
    · have q1 : decide (n < -719162) = false := decide_eq_false h1
      have q2 : decide (2932896 < n) = true := decide_eq_true (by omega)
      clear hin
      go_enter Tryd.func4, Tryd.ntmps4
      go_wp2_with (first | (go_at_call 7; (with_reducible refine HS.out.mono ?_); rintro e w1 ⟨rfl, hb1⟩; have tb := tb.trans (hb1.mono tb.size)) | (go_at_call 12; (with_reducible refine (HV.out _).mono ?_); rintro e w1 ⟨rfl, hb1⟩; have tb := tb.trans (hb1.mono tb.size)))
      go_ret
      exact ⟨rfl, tb⟩
end Go.Proofs.YtlgnhngbmciaoaaDoor
