/- Walks: the law DateYears. -/
import Derived.Test.YtlgnhngbmciaoaaDoorDtS7
import Derived.Deep.LoopGhost
namespace Go.Proofs.YtlgnhngbmciaoaaDoor
open Go.RowKit Pk Dt

theorem ms_bd (y : Int) : ∀ k : Nat, 0 ≤ ms y k ∧ ms y k ≤ 31 * k
  | 0 => by simp [ms]
  | k + 1 => by
    have h1 := ms_bd y k
    have h2 := mlen_le y ((k : Int) + 1)
    have h3 := mlen_ge y ((k : Int) + 1)
    rw [ms]; omega
set_option maxHeartbeats 4000000 in
set_option maxRecDepth 100000 in
theorem dateYears_any (y : Int) (w : World) (h : Rd7 w) : Calls Tryd.prog 6 #[.int .i64 y] w (Truth7 w) := by
  have hS := small7_any w h
  unfold Truth7 at hS ⊢
  have HS := Lib.hid hS
  have tb := Below.refl w.heap.size w
  clear hS h
  by_cases h1 : 1 ≤ y
  · have q1 : decide (y < 1) = false := decide_eq_false (by omega)
    by_cases h2 : y ≤ 9998
    · have q2 : decide (9998 < y) = false := decide_eq_false (by omega)
      have hdiff := year_diff h1 h2
      have h12 := ms_12 y
      have t4 : y.tmod 4 = y % 4 := Int.tmod_eq_emod_of_nonneg (by omega)
      have t100 : y.tmod 100 = y % 100 := Int.tmod_eq_emod_of_nonneg (by omega)
      have t400 : y.tmod 400 = y % 400 := Int.tmod_eq_emod_of_nonneg (by omega)
      have hlp := leap_iff y
      by_cases l1 : y % 4 = 0 ∧ y % 100 ≠ 0
      · have hl : leapB y = true := hlp.2 (.inl l1)
        rw [if_pos hl] at hdiff h12
        have p1 : (y % 4 == 0) = true := beq_iff_eq.2 l1.1
        have p2 : (y % 100 != 0) = true := by rw [bne, beq_eq_false_iff_ne.2 l1.2]; rfl
        have HDf := Lib.hid hdiff
        have H12 := Lib.hid h12
        clear hdiff h12 hlp l1 hl
        go_enter Tryd.func6, Tryd.ntmps6
        go_wp2_with (go_at_call 7; (with_reducible refine HS.out.mono ?_); rintro e w1 ⟨rfl, hb1⟩; have tb := tb.trans (hb1.mono tb.size))
        go_loopw [5, 6, 7] (fun sv mv _ wr => ∃ (k : Nat) (S : Int), sv = .int .i64 S ∧ mv = .int .i64 ((k : Int) + 1) ∧ k ≤ 12 ∧ 0 ≤ S ∧ S ≤ 1000 ∧ Hid (S = ms y k) ∧ Below w.heap.size w wr) (fun _ mv _ _ => 13 - (intOf mv).toNat)
        case atStart => exact ⟨0, 0, rfl, by first | rfl | trivial, by omega, by omega, by omega, rfl, tb⟩
        case round =>
          obtain ⟨k, S, rfl, rfl, hk, hS0, hS1, hS, hbel⟩ := hrel
          by_cases hlt : k < 12
          · have hm0 : 1 ≤ (k : Int) + 1 := by omega
            have hm1 : (k : Int) + 1 ≤ 12 := by omega
            have hl28 := mlen_ge y ((k : Int) + 1)
            have hl31 := mlen_le y ((k : Int) + 1)
            have hgo := fun (d : Int) (h4 : 1 ≤ d) (h5 : d ≤ mlen y ((k : Int) + 1)) (h31 : d < 31) => month_go h1 (show y ≤ 9999 by omega) hm0 hm1 h4 h5 h31
            have hbd := ms_bd y (k + 1)
            have hstep : Hid (ms y (k + 1) = ms y k + mlen y ((k : Int) + 1)) := rfl
            have HGO := Lib.hid hgo
            clear hgo
            have hwk : y ≤ 9599 → wkL (daysL (y + 400) ((k : Int) + 1) 1) = wkL (daysL y ((k : Int) + 1) 1) := fun hy => week_400 h1 hy hm0 hm1
            have HWK := Lib.hid hwk
            clear hwk
            generalize mlen y ((k : Int) + 1) = ml at *
            generalize hwo : wr = wo at *
            go_wp2
            go_loopw [7] (fun dv wx => ∃ d : Int, dv = .int .i64 d ∧ 28 ≤ d ∧ d ≤ ml ∧ d ≤ 31 ∧ Below w.heap.size w wx) (fun dv _ => (31 - intOf dv).toNat)
            case atStart => exact ⟨28, by first | rfl | trivial, by omega, hl28, by omega, hbel⟩
            case round =>
              obtain ⟨d, rfl, hd0, hd1, hd2, hbel⟩ := hrel
              have tb := hbel
              by_cases hd31 : d < 31
              · have hg := HGO.out d (by omega) hd1 hd31
                have b1 := days_bd y ((k : Int) + 1) d
                have b2 := days_bd y ((k : Int) + 1) (d + 1)
                have hDa := fun w => days_any y ((k : Int) + 1) d w
                have hDb := fun w => days_any y ((k : Int) + 1) (d + 1) w
                generalize daysL y ((k : Int) + 1) d = A at *
                generalize daysL y ((k : Int) + 1) (d + 1) = B at *
                have HDa := Lib.hid hDa
                have HDb := Lib.hid hDb
                clear hDa hDb
                have q31 : decide (d < 31) = true := decide_eq_true hd31
                by_cases hmore : d < ml
                · rw [decide_eq_true hmore] at hg
                  go_wp2_with (first | (go_at_call 13; (with_reducible refine (HDa.out _).mono ?_); rintro e w1 ⟨rfl, hb1⟩; have tb := tb.trans (hb1.mono tb.size)) | (go_at_call 13; (with_reducible refine (HDb.out _).mono ?_); rintro e w1 ⟨rfl, hb1⟩; have tb := tb.trans (hb1.mono tb.size)))
                  go_roundw
                  case rel => exact ⟨d + 1, rfl, by omega, by omega, by omega, tb⟩
                  case measure => simp [intOf]; omega
                · rw [decide_eq_false hmore] at hg
                  obtain rfl : d = ml := by omega
                  clear hmore
                  have hms := hS.out
                  have hst := hstep.out
                  have hN : Hid (S + d = ms y (k + 1)) := by show _ = _; rw [hst, hms]
                  have hsd : 0 ≤ S + d ∧ S + d ≤ 1000 := by rw [hN.out]; omega
                  clear hms hst
                  by_cases h9 : y ≤ 9599
                  · have q9 : decide (y ≤ 9599) = true := decide_eq_true h9
                    have hw := HWK.out h9
                    have b4 := days_bd (y + 400) ((k : Int) + 1) 1
                    have b5 := days_bd y ((k : Int) + 1) 1
                    have hD4 := fun w => days_any (y + 400) ((k : Int) + 1) 1 w
                    have hD5 := fun w => days_any y ((k : Int) + 1) 1 w
                    generalize daysL (y + 400) ((k : Int) + 1) 1 = A4 at *
                    generalize daysL y ((k : Int) + 1) 1 = A5 at *
                    have hK4 := fun w => week_any A4 w (by omega) (by omega)
                    have hK5 := fun w => week_any A5 w (by omega) (by omega)
                    rw [hw] at hK4
                    generalize wkL A5 = WK at *
                    have HD4 := Lib.hid hD4
                    have HD5 := Lib.hid hD5
                    have HK4 := Lib.hid hK4
                    have HK5 := Lib.hid hK5
                    clear hD4 hD5 hK4 hK5 hw HWK HGO
                    go_wp2_with (first | (go_at_call 13; (with_reducible refine (HDa.out _).mono ?_); rintro e w1 ⟨rfl, hb1⟩; have tb := tb.trans (hb1.mono tb.size)) | (go_at_call 13; (with_reducible refine (HDb.out _).mono ?_); rintro e w1 ⟨rfl, hb1⟩; have tb := tb.trans (hb1.mono tb.size)) | (go_at_call 13; (with_reducible refine (HD4.out _).mono ?_); rintro e w1 ⟨rfl, hb1⟩; have tb := tb.trans (hb1.mono tb.size)) | (go_at_call 13; (with_reducible refine (HD5.out _).mono ?_); rintro e w1 ⟨rfl, hb1⟩; have tb := tb.trans (hb1.mono tb.size)) | (go_at_call 14; (with_reducible refine (HK4.out _).mono ?_); rintro e w1 ⟨rfl, hb1⟩; have tb := tb.trans (hb1.mono tb.size)) | (go_at_call 14; (with_reducible refine (HK5.out _).mono ?_); rintro e w1 ⟨rfl, hb1⟩; have tb := tb.trans (hb1.mono tb.size)))
                    refine ⟨⟨k + 1, S + d, rfl, by go_num, by omega, hsd.1, hsd.2, hN, tb⟩, ?_⟩
                    simp [intOf]; omega
                  · have q9 : decide (y ≤ 9599) = false := decide_eq_false h9
                    clear HWK HGO
                    go_wp2_with (first | (go_at_call 13; (with_reducible refine (HDa.out _).mono ?_); rintro e w1 ⟨rfl, hb1⟩; have tb := tb.trans (hb1.mono tb.size)) | (go_at_call 13; (with_reducible refine (HDb.out _).mono ?_); rintro e w1 ⟨rfl, hb1⟩; have tb := tb.trans (hb1.mono tb.size)))
                    refine ⟨⟨k + 1, S + d, rfl, by go_num, by omega, hsd.1, hsd.2, hN, tb⟩, ?_⟩
                    simp [intOf]; omega
              · have q31 : decide (d < 31) = false := decide_eq_false hd31
                obtain rfl : d = ml := by omega
                have hms := hS.out
                have hst := hstep.out
                have hN : Hid (S + d = ms y (k + 1)) := by show _ = _; rw [hst, hms]
                have hsd : 0 ≤ S + d ∧ S + d ≤ 1000 := by rw [hN.out]; omega
                clear hms hst
                by_cases h9 : y ≤ 9599
                · have q9 : decide (y ≤ 9599) = true := decide_eq_true h9
                  have hw := HWK.out h9
                  have b4 := days_bd (y + 400) ((k : Int) + 1) 1
                  have b5 := days_bd y ((k : Int) + 1) 1
                  have hD4 := fun w => days_any (y + 400) ((k : Int) + 1) 1 w
                  have hD5 := fun w => days_any y ((k : Int) + 1) 1 w
                  generalize daysL (y + 400) ((k : Int) + 1) 1 = A4 at *
                  generalize daysL y ((k : Int) + 1) 1 = A5 at *
                  have hK4 := fun w => week_any A4 w (by omega) (by omega)
                  have hK5 := fun w => week_any A5 w (by omega) (by omega)
                  rw [hw] at hK4
                  generalize wkL A5 = WK at *
                  have HD4 := Lib.hid hD4
                  have HD5 := Lib.hid hD5
                  have HK4 := Lib.hid hK4
                  have HK5 := Lib.hid hK5
                  clear hD4 hD5 hK4 hK5 hw HWK HGO
                  go_wp2_with (first | fail | (go_at_call 13; (with_reducible refine (HD4.out _).mono ?_); rintro e w1 ⟨rfl, hb1⟩; have tb := tb.trans (hb1.mono tb.size)) | (go_at_call 13; (with_reducible refine (HD5.out _).mono ?_); rintro e w1 ⟨rfl, hb1⟩; have tb := tb.trans (hb1.mono tb.size)) | (go_at_call 14; (with_reducible refine (HK4.out _).mono ?_); rintro e w1 ⟨rfl, hb1⟩; have tb := tb.trans (hb1.mono tb.size)) | (go_at_call 14; (with_reducible refine (HK5.out _).mono ?_); rintro e w1 ⟨rfl, hb1⟩; have tb := tb.trans (hb1.mono tb.size)))
                  refine ⟨⟨k + 1, S + d, rfl, by go_num, by omega, hsd.1, hsd.2, hN, tb⟩, ?_⟩
                  simp [intOf]; omega
                · have q9 : decide (y ≤ 9599) = false := decide_eq_false h9
                  clear HWK HGO
                  go_wp2_with fail
                  refine ⟨⟨k + 1, S + d, rfl, by go_num, by omega, hsd.1, hsd.2, hN, tb⟩, ?_⟩
                  simp [intOf]; omega
          · obtain rfl : k = 12 := by omega
            have s1 : (S == 366) = true := beq_iff_eq.2 (by rw [hS.out]; exact H12.out)
            have hdf := HDf.out
            have b4 := days_bd (y + 1) 1 1
            have b5 := days_bd y 1 1
            have hD4 := fun w => days_any (y + 1) 1 1 w
            have hD5 := fun w => days_any y 1 1 w
            generalize daysL (y + 1) 1 1 = A4 at *
            generalize daysL y 1 1 = A5 at *
            have s2 : (A4 - A5 == 366) = true := beq_iff_eq.2 hdf
            have HD4 := Lib.hid hD4
            have HD5 := Lib.hid hD5
            have tb := hbel
            clear hD4 hD5 hdf HDf H12
            go_wp2_with (first | (go_at_call 13; (with_reducible refine (HD4.out _).mono ?_); rintro e w1 ⟨rfl, hb1⟩; have tb := tb.trans (hb1.mono tb.size)) | (go_at_call 13; (with_reducible refine (HD5.out _).mono ?_); rintro e w1 ⟨rfl, hb1⟩; have tb := tb.trans (hb1.mono tb.size)))
            go_ret
            exact ⟨rfl, tb⟩
      · by_cases l2 : y % 400 = 0
        · have hl : leapB y = true := hlp.2 (.inr l2)
          rw [if_pos hl] at hdiff h12
          have p1 : (y % 4 == 0) = true := beq_iff_eq.2 (by omega)
          have p2 : (y % 100 != 0) = false := by rw [bne, beq_iff_eq.2 (by omega)]; rfl
          have p3 : (y % 400 == 0) = true := beq_iff_eq.2 l2
          have HDf := Lib.hid hdiff
          have H12 := Lib.hid h12
          clear hdiff h12 hlp l1 hl l2
          go_enter Tryd.func6, Tryd.ntmps6
          go_wp2_with (go_at_call 7; (with_reducible refine HS.out.mono ?_); rintro e w1 ⟨rfl, hb1⟩; have tb := tb.trans (hb1.mono tb.size))
          go_loopw [5, 6, 7] (fun sv mv _ wr => ∃ (k : Nat) (S : Int), sv = .int .i64 S ∧ mv = .int .i64 ((k : Int) + 1) ∧ k ≤ 12 ∧ 0 ≤ S ∧ S ≤ 1000 ∧ Hid (S = ms y k) ∧ Below w.heap.size w wr) (fun _ mv _ _ => 13 - (intOf mv).toNat)
          case atStart => exact ⟨0, 0, rfl, by first | rfl | trivial, by omega, by omega, by omega, rfl, tb⟩
          case round =>
            obtain ⟨k, S, rfl, rfl, hk, hS0, hS1, hS, hbel⟩ := hrel
            by_cases hlt : k < 12
            · have hm0 : 1 ≤ (k : Int) + 1 := by omega
              have hm1 : (k : Int) + 1 ≤ 12 := by omega
              have hl28 := mlen_ge y ((k : Int) + 1)
              have hl31 := mlen_le y ((k : Int) + 1)
              have hgo := fun (d : Int) (h4 : 1 ≤ d) (h5 : d ≤ mlen y ((k : Int) + 1)) (h31 : d < 31) => month_go h1 (show y ≤ 9999 by omega) hm0 hm1 h4 h5 h31
              have hbd := ms_bd y (k + 1)
              have hstep : Hid (ms y (k + 1) = ms y k + mlen y ((k : Int) + 1)) := rfl
              have HGO := Lib.hid hgo
              clear hgo
              have hwk : y ≤ 9599 → wkL (daysL (y + 400) ((k : Int) + 1) 1) = wkL (daysL y ((k : Int) + 1) 1) := fun hy => week_400 h1 hy hm0 hm1
              have HWK := Lib.hid hwk
              clear hwk
              generalize mlen y ((k : Int) + 1) = ml at *
              generalize hwo : wr = wo at *
              go_wp2
              go_loopw [7] (fun dv wx => ∃ d : Int, dv = .int .i64 d ∧ 28 ≤ d ∧ d ≤ ml ∧ d ≤ 31 ∧ Below w.heap.size w wx) (fun dv _ => (31 - intOf dv).toNat)
              case atStart => exact ⟨28, by first | rfl | trivial, by omega, hl28, by omega, hbel⟩
              case round =>
                obtain ⟨d, rfl, hd0, hd1, hd2, hbel⟩ := hrel
                have tb := hbel
                by_cases hd31 : d < 31
                · have hg := HGO.out d (by omega) hd1 hd31
                  have b1 := days_bd y ((k : Int) + 1) d
                  have b2 := days_bd y ((k : Int) + 1) (d + 1)
                  have hDa := fun w => days_any y ((k : Int) + 1) d w
                  have hDb := fun w => days_any y ((k : Int) + 1) (d + 1) w
                  generalize daysL y ((k : Int) + 1) d = A at *
                  generalize daysL y ((k : Int) + 1) (d + 1) = B at *
                  have HDa := Lib.hid hDa
                  have HDb := Lib.hid hDb
                  clear hDa hDb
                  have q31 : decide (d < 31) = true := decide_eq_true hd31
                  by_cases hmore : d < ml
                  · rw [decide_eq_true hmore] at hg
                    go_wp2_with (first | (go_at_call 13; (with_reducible refine (HDa.out _).mono ?_); rintro e w1 ⟨rfl, hb1⟩; have tb := tb.trans (hb1.mono tb.size)) | (go_at_call 13; (with_reducible refine (HDb.out _).mono ?_); rintro e w1 ⟨rfl, hb1⟩; have tb := tb.trans (hb1.mono tb.size)))
                    go_roundw
                    case rel => exact ⟨d + 1, rfl, by omega, by omega, by omega, tb⟩
                    case measure => simp [intOf]; omega
                  · rw [decide_eq_false hmore] at hg
                    obtain rfl : d = ml := by omega
                    clear hmore
                    have hms := hS.out
                    have hst := hstep.out
                    have hN : Hid (S + d = ms y (k + 1)) := by show _ = _; rw [hst, hms]
                    have hsd : 0 ≤ S + d ∧ S + d ≤ 1000 := by rw [hN.out]; omega
                    clear hms hst
                    by_cases h9 : y ≤ 9599
                    · have q9 : decide (y ≤ 9599) = true := decide_eq_true h9
                      have hw := HWK.out h9
                      have b4 := days_bd (y + 400) ((k : Int) + 1) 1
                      have b5 := days_bd y ((k : Int) + 1) 1
                      have hD4 := fun w => days_any (y + 400) ((k : Int) + 1) 1 w
                      have hD5 := fun w => days_any y ((k : Int) + 1) 1 w
                      generalize daysL (y + 400) ((k : Int) + 1) 1 = A4 at *
                      generalize daysL y ((k : Int) + 1) 1 = A5 at *
                      have hK4 := fun w => week_any A4 w (by omega) (by omega)
                      have hK5 := fun w => week_any A5 w (by omega) (by omega)
                      rw [hw] at hK4
                      generalize wkL A5 = WK at *
                      have HD4 := Lib.hid hD4
                      have HD5 := Lib.hid hD5
                      have HK4 := Lib.hid hK4
                      have HK5 := Lib.hid hK5
                      clear hD4 hD5 hK4 hK5 hw HWK HGO
                      go_wp2_with (first | (go_at_call 13; (with_reducible refine (HDa.out _).mono ?_); rintro e w1 ⟨rfl, hb1⟩; have tb := tb.trans (hb1.mono tb.size)) | (go_at_call 13; (with_reducible refine (HDb.out _).mono ?_); rintro e w1 ⟨rfl, hb1⟩; have tb := tb.trans (hb1.mono tb.size)) | (go_at_call 13; (with_reducible refine (HD4.out _).mono ?_); rintro e w1 ⟨rfl, hb1⟩; have tb := tb.trans (hb1.mono tb.size)) | (go_at_call 13; (with_reducible refine (HD5.out _).mono ?_); rintro e w1 ⟨rfl, hb1⟩; have tb := tb.trans (hb1.mono tb.size)) | (go_at_call 14; (with_reducible refine (HK4.out _).mono ?_); rintro e w1 ⟨rfl, hb1⟩; have tb := tb.trans (hb1.mono tb.size)) | (go_at_call 14; (with_reducible refine (HK5.out _).mono ?_); rintro e w1 ⟨rfl, hb1⟩; have tb := tb.trans (hb1.mono tb.size)))
                      refine ⟨⟨k + 1, S + d, rfl, by go_num, by omega, hsd.1, hsd.2, hN, tb⟩, ?_⟩
                      simp [intOf]; omega
                    · have q9 : decide (y ≤ 9599) = false := decide_eq_false h9
                      clear HWK HGO
                      go_wp2_with (first | (go_at_call 13; (with_reducible refine (HDa.out _).mono ?_); rintro e w1 ⟨rfl, hb1⟩; have tb := tb.trans (hb1.mono tb.size)) | (go_at_call 13; (with_reducible refine (HDb.out _).mono ?_); rintro e w1 ⟨rfl, hb1⟩; have tb := tb.trans (hb1.mono tb.size)))
                      refine ⟨⟨k + 1, S + d, rfl, by go_num, by omega, hsd.1, hsd.2, hN, tb⟩, ?_⟩
                      simp [intOf]; omega
                · have q31 : decide (d < 31) = false := decide_eq_false hd31
                  obtain rfl : d = ml := by omega
                  have hms := hS.out
                  have hst := hstep.out
                  have hN : Hid (S + d = ms y (k + 1)) := by show _ = _; rw [hst, hms]
                  have hsd : 0 ≤ S + d ∧ S + d ≤ 1000 := by rw [hN.out]; omega
                  clear hms hst
                  by_cases h9 : y ≤ 9599
                  · have q9 : decide (y ≤ 9599) = true := decide_eq_true h9
                    have hw := HWK.out h9
                    have b4 := days_bd (y + 400) ((k : Int) + 1) 1
                    have b5 := days_bd y ((k : Int) + 1) 1
                    have hD4 := fun w => days_any (y + 400) ((k : Int) + 1) 1 w
                    have hD5 := fun w => days_any y ((k : Int) + 1) 1 w
                    generalize daysL (y + 400) ((k : Int) + 1) 1 = A4 at *
                    generalize daysL y ((k : Int) + 1) 1 = A5 at *
                    have hK4 := fun w => week_any A4 w (by omega) (by omega)
                    have hK5 := fun w => week_any A5 w (by omega) (by omega)
                    rw [hw] at hK4
                    generalize wkL A5 = WK at *
                    have HD4 := Lib.hid hD4
                    have HD5 := Lib.hid hD5
                    have HK4 := Lib.hid hK4
                    have HK5 := Lib.hid hK5
                    clear hD4 hD5 hK4 hK5 hw HWK HGO
                    go_wp2_with (first | fail | (go_at_call 13; (with_reducible refine (HD4.out _).mono ?_); rintro e w1 ⟨rfl, hb1⟩; have tb := tb.trans (hb1.mono tb.size)) | (go_at_call 13; (with_reducible refine (HD5.out _).mono ?_); rintro e w1 ⟨rfl, hb1⟩; have tb := tb.trans (hb1.mono tb.size)) | (go_at_call 14; (with_reducible refine (HK4.out _).mono ?_); rintro e w1 ⟨rfl, hb1⟩; have tb := tb.trans (hb1.mono tb.size)) | (go_at_call 14; (with_reducible refine (HK5.out _).mono ?_); rintro e w1 ⟨rfl, hb1⟩; have tb := tb.trans (hb1.mono tb.size)))
                    refine ⟨⟨k + 1, S + d, rfl, by go_num, by omega, hsd.1, hsd.2, hN, tb⟩, ?_⟩
                    simp [intOf]; omega
                  · have q9 : decide (y ≤ 9599) = false := decide_eq_false h9
                    clear HWK HGO
                    go_wp2_with fail
                    refine ⟨⟨k + 1, S + d, rfl, by go_num, by omega, hsd.1, hsd.2, hN, tb⟩, ?_⟩
                    simp [intOf]; omega
            · obtain rfl : k = 12 := by omega
              have s1 : (S == 366) = true := beq_iff_eq.2 (by rw [hS.out]; exact H12.out)
              have hdf := HDf.out
              have b4 := days_bd (y + 1) 1 1
              have b5 := days_bd y 1 1
              have hD4 := fun w => days_any (y + 1) 1 1 w
              have hD5 := fun w => days_any y 1 1 w
              generalize daysL (y + 1) 1 1 = A4 at *
              generalize daysL y 1 1 = A5 at *
              have s2 : (A4 - A5 == 366) = true := beq_iff_eq.2 hdf
              have HD4 := Lib.hid hD4
              have HD5 := Lib.hid hD5
              have tb := hbel
              clear hD4 hD5 hdf HDf H12
              go_wp2_with (first | (go_at_call 13; (with_reducible refine (HD4.out _).mono ?_); rintro e w1 ⟨rfl, hb1⟩; have tb := tb.trans (hb1.mono tb.size)) | (go_at_call 13; (with_reducible refine (HD5.out _).mono ?_); rintro e w1 ⟨rfl, hb1⟩; have tb := tb.trans (hb1.mono tb.size)))
              go_ret
              exact ⟨rfl, tb⟩
        · have hl : ¬ leapB y = true := fun hh => by
            rcases hlp.1 hh with h | h
            · exact l1 h
            · exact l2 h
          rw [if_neg hl] at hdiff h12
          have p3 : (y % 400 == 0) = false := beq_eq_false_iff_ne.2 l2
          have HDf := Lib.hid hdiff
          have H12 := Lib.hid h12
          by_cases l3 : y % 4 = 0
          · have p1 : (y % 4 == 0) = true := beq_iff_eq.2 l3
            have p2 : (y % 100 != 0) = false := by rw [bne, beq_iff_eq.2 (by omega)]; rfl
            clear hdiff h12 hlp l1 hl l2 l3
            go_enter Tryd.func6, Tryd.ntmps6
            go_wp2_with (go_at_call 7; (with_reducible refine HS.out.mono ?_); rintro e w1 ⟨rfl, hb1⟩; have tb := tb.trans (hb1.mono tb.size))
            go_loopw [5, 6, 7] (fun sv mv _ wr => ∃ (k : Nat) (S : Int), sv = .int .i64 S ∧ mv = .int .i64 ((k : Int) + 1) ∧ k ≤ 12 ∧ 0 ≤ S ∧ S ≤ 1000 ∧ Hid (S = ms y k) ∧ Below w.heap.size w wr) (fun _ mv _ _ => 13 - (intOf mv).toNat)
            case atStart => exact ⟨0, 0, rfl, by first | rfl | trivial, by omega, by omega, by omega, rfl, tb⟩
            case round =>
              obtain ⟨k, S, rfl, rfl, hk, hS0, hS1, hS, hbel⟩ := hrel
              by_cases hlt : k < 12
              · have hm0 : 1 ≤ (k : Int) + 1 := by omega
                have hm1 : (k : Int) + 1 ≤ 12 := by omega
                have hl28 := mlen_ge y ((k : Int) + 1)
                have hl31 := mlen_le y ((k : Int) + 1)
                have hgo := fun (d : Int) (h4 : 1 ≤ d) (h5 : d ≤ mlen y ((k : Int) + 1)) (h31 : d < 31) => month_go h1 (show y ≤ 9999 by omega) hm0 hm1 h4 h5 h31
                have hbd := ms_bd y (k + 1)
                have hstep : Hid (ms y (k + 1) = ms y k + mlen y ((k : Int) + 1)) := rfl
                have HGO := Lib.hid hgo
                clear hgo
                have hwk : y ≤ 9599 → wkL (daysL (y + 400) ((k : Int) + 1) 1) = wkL (daysL y ((k : Int) + 1) 1) := fun hy => week_400 h1 hy hm0 hm1
                have HWK := Lib.hid hwk
                clear hwk
                generalize mlen y ((k : Int) + 1) = ml at *
                generalize hwo : wr = wo at *
                go_wp2
                go_loopw [7] (fun dv wx => ∃ d : Int, dv = .int .i64 d ∧ 28 ≤ d ∧ d ≤ ml ∧ d ≤ 31 ∧ Below w.heap.size w wx) (fun dv _ => (31 - intOf dv).toNat)
                case atStart => exact ⟨28, by first | rfl | trivial, by omega, hl28, by omega, hbel⟩
                case round =>
                  obtain ⟨d, rfl, hd0, hd1, hd2, hbel⟩ := hrel
                  have tb := hbel
                  by_cases hd31 : d < 31
                  · have hg := HGO.out d (by omega) hd1 hd31
                    have b1 := days_bd y ((k : Int) + 1) d
                    have b2 := days_bd y ((k : Int) + 1) (d + 1)
                    have hDa := fun w => days_any y ((k : Int) + 1) d w
                    have hDb := fun w => days_any y ((k : Int) + 1) (d + 1) w
                    generalize daysL y ((k : Int) + 1) d = A at *
                    generalize daysL y ((k : Int) + 1) (d + 1) = B at *
                    have HDa := Lib.hid hDa
                    have HDb := Lib.hid hDb
                    clear hDa hDb
                    have q31 : decide (d < 31) = true := decide_eq_true hd31
                    by_cases hmore : d < ml
                    · rw [decide_eq_true hmore] at hg
                      go_wp2_with (first | (go_at_call 13; (with_reducible refine (HDa.out _).mono ?_); rintro e w1 ⟨rfl, hb1⟩; have tb := tb.trans (hb1.mono tb.size)) | (go_at_call 13; (with_reducible refine (HDb.out _).mono ?_); rintro e w1 ⟨rfl, hb1⟩; have tb := tb.trans (hb1.mono tb.size)))
                      go_roundw
                      case rel => exact ⟨d + 1, rfl, by omega, by omega, by omega, tb⟩
                      case measure => simp [intOf]; omega
                    · rw [decide_eq_false hmore] at hg
                      obtain rfl : d = ml := by omega
                      clear hmore
                      have hms := hS.out
                      have hst := hstep.out
                      have hN : Hid (S + d = ms y (k + 1)) := by show _ = _; rw [hst, hms]
                      have hsd : 0 ≤ S + d ∧ S + d ≤ 1000 := by rw [hN.out]; omega
                      clear hms hst
                      by_cases h9 : y ≤ 9599
                      · have q9 : decide (y ≤ 9599) = true := decide_eq_true h9
                        have hw := HWK.out h9
                        have b4 := days_bd (y + 400) ((k : Int) + 1) 1
                        have b5 := days_bd y ((k : Int) + 1) 1
                        have hD4 := fun w => days_any (y + 400) ((k : Int) + 1) 1 w
                        have hD5 := fun w => days_any y ((k : Int) + 1) 1 w
                        generalize daysL (y + 400) ((k : Int) + 1) 1 = A4 at *
                        generalize daysL y ((k : Int) + 1) 1 = A5 at *
                        have hK4 := fun w => week_any A4 w (by omega) (by omega)
                        have hK5 := fun w => week_any A5 w (by omega) (by omega)
                        rw [hw] at hK4
                        generalize wkL A5 = WK at *
                        have HD4 := Lib.hid hD4
                        have HD5 := Lib.hid hD5
                        have HK4 := Lib.hid hK4
                        have HK5 := Lib.hid hK5
                        clear hD4 hD5 hK4 hK5 hw HWK HGO
                        go_wp2_with (first | (go_at_call 13; (with_reducible refine (HDa.out _).mono ?_); rintro e w1 ⟨rfl, hb1⟩; have tb := tb.trans (hb1.mono tb.size)) | (go_at_call 13; (with_reducible refine (HDb.out _).mono ?_); rintro e w1 ⟨rfl, hb1⟩; have tb := tb.trans (hb1.mono tb.size)) | (go_at_call 13; (with_reducible refine (HD4.out _).mono ?_); rintro e w1 ⟨rfl, hb1⟩; have tb := tb.trans (hb1.mono tb.size)) | (go_at_call 13; (with_reducible refine (HD5.out _).mono ?_); rintro e w1 ⟨rfl, hb1⟩; have tb := tb.trans (hb1.mono tb.size)) | (go_at_call 14; (with_reducible refine (HK4.out _).mono ?_); rintro e w1 ⟨rfl, hb1⟩; have tb := tb.trans (hb1.mono tb.size)) | (go_at_call 14; (with_reducible refine (HK5.out _).mono ?_); rintro e w1 ⟨rfl, hb1⟩; have tb := tb.trans (hb1.mono tb.size)))
                        refine ⟨⟨k + 1, S + d, rfl, by go_num, by omega, hsd.1, hsd.2, hN, tb⟩, ?_⟩
                        simp [intOf]; omega
                      · have q9 : decide (y ≤ 9599) = false := decide_eq_false h9
                        clear HWK HGO
                        go_wp2_with (first | (go_at_call 13; (with_reducible refine (HDa.out _).mono ?_); rintro e w1 ⟨rfl, hb1⟩; have tb := tb.trans (hb1.mono tb.size)) | (go_at_call 13; (with_reducible refine (HDb.out _).mono ?_); rintro e w1 ⟨rfl, hb1⟩; have tb := tb.trans (hb1.mono tb.size)))
                        refine ⟨⟨k + 1, S + d, rfl, by go_num, by omega, hsd.1, hsd.2, hN, tb⟩, ?_⟩
                        simp [intOf]; omega
                  · have q31 : decide (d < 31) = false := decide_eq_false hd31
                    obtain rfl : d = ml := by omega
                    have hms := hS.out
                    have hst := hstep.out
                    have hN : Hid (S + d = ms y (k + 1)) := by show _ = _; rw [hst, hms]
                    have hsd : 0 ≤ S + d ∧ S + d ≤ 1000 := by rw [hN.out]; omega
                    clear hms hst
                    by_cases h9 : y ≤ 9599
                    · have q9 : decide (y ≤ 9599) = true := decide_eq_true h9
                      have hw := HWK.out h9
                      have b4 := days_bd (y + 400) ((k : Int) + 1) 1
                      have b5 := days_bd y ((k : Int) + 1) 1
                      have hD4 := fun w => days_any (y + 400) ((k : Int) + 1) 1 w
                      have hD5 := fun w => days_any y ((k : Int) + 1) 1 w
                      generalize daysL (y + 400) ((k : Int) + 1) 1 = A4 at *
                      generalize daysL y ((k : Int) + 1) 1 = A5 at *
                      have hK4 := fun w => week_any A4 w (by omega) (by omega)
                      have hK5 := fun w => week_any A5 w (by omega) (by omega)
                      rw [hw] at hK4
                      generalize wkL A5 = WK at *
                      have HD4 := Lib.hid hD4
                      have HD5 := Lib.hid hD5
                      have HK4 := Lib.hid hK4
                      have HK5 := Lib.hid hK5
                      clear hD4 hD5 hK4 hK5 hw HWK HGO
                      go_wp2_with (first | fail | (go_at_call 13; (with_reducible refine (HD4.out _).mono ?_); rintro e w1 ⟨rfl, hb1⟩; have tb := tb.trans (hb1.mono tb.size)) | (go_at_call 13; (with_reducible refine (HD5.out _).mono ?_); rintro e w1 ⟨rfl, hb1⟩; have tb := tb.trans (hb1.mono tb.size)) | (go_at_call 14; (with_reducible refine (HK4.out _).mono ?_); rintro e w1 ⟨rfl, hb1⟩; have tb := tb.trans (hb1.mono tb.size)) | (go_at_call 14; (with_reducible refine (HK5.out _).mono ?_); rintro e w1 ⟨rfl, hb1⟩; have tb := tb.trans (hb1.mono tb.size)))
                      refine ⟨⟨k + 1, S + d, rfl, by go_num, by omega, hsd.1, hsd.2, hN, tb⟩, ?_⟩
                      simp [intOf]; omega
                    · have q9 : decide (y ≤ 9599) = false := decide_eq_false h9
                      clear HWK HGO
                      go_wp2_with fail
                      refine ⟨⟨k + 1, S + d, rfl, by go_num, by omega, hsd.1, hsd.2, hN, tb⟩, ?_⟩
                      simp [intOf]; omega
              · obtain rfl : k = 12 := by omega
                have s1 : (S == 365) = true := beq_iff_eq.2 (by rw [hS.out]; exact H12.out)
                have hdf := HDf.out
                have b4 := days_bd (y + 1) 1 1
                have b5 := days_bd y 1 1
                have hD4 := fun w => days_any (y + 1) 1 1 w
                have hD5 := fun w => days_any y 1 1 w
                generalize daysL (y + 1) 1 1 = A4 at *
                generalize daysL y 1 1 = A5 at *
                have s2 : (A4 - A5 == 365) = true := beq_iff_eq.2 hdf
                have HD4 := Lib.hid hD4
                have HD5 := Lib.hid hD5
                have tb := hbel
                clear hD4 hD5 hdf HDf H12
                go_wp2_with (first | (go_at_call 13; (with_reducible refine (HD4.out _).mono ?_); rintro e w1 ⟨rfl, hb1⟩; have tb := tb.trans (hb1.mono tb.size)) | (go_at_call 13; (with_reducible refine (HD5.out _).mono ?_); rintro e w1 ⟨rfl, hb1⟩; have tb := tb.trans (hb1.mono tb.size)))
                go_ret
                exact ⟨rfl, tb⟩
          · have p1 : (y % 4 == 0) = false := beq_eq_false_iff_ne.2 l3
            clear hdiff h12 hlp l1 hl l2 l3
            go_enter Tryd.func6, Tryd.ntmps6
            go_wp2_with (go_at_call 7; (with_reducible refine HS.out.mono ?_); rintro e w1 ⟨rfl, hb1⟩; have tb := tb.trans (hb1.mono tb.size))
            go_loopw [5, 6, 7] (fun sv mv _ wr => ∃ (k : Nat) (S : Int), sv = .int .i64 S ∧ mv = .int .i64 ((k : Int) + 1) ∧ k ≤ 12 ∧ 0 ≤ S ∧ S ≤ 1000 ∧ Hid (S = ms y k) ∧ Below w.heap.size w wr) (fun _ mv _ _ => 13 - (intOf mv).toNat)
            case atStart => exact ⟨0, 0, rfl, by first | rfl | trivial, by omega, by omega, by omega, rfl, tb⟩
            case round =>
              obtain ⟨k, S, rfl, rfl, hk, hS0, hS1, hS, hbel⟩ := hrel
              by_cases hlt : k < 12
              · have hm0 : 1 ≤ (k : Int) + 1 := by omega
                have hm1 : (k : Int) + 1 ≤ 12 := by omega
                have hl28 := mlen_ge y ((k : Int) + 1)
                have hl31 := mlen_le y ((k : Int) + 1)
                have hgo := fun (d : Int) (h4 : 1 ≤ d) (h5 : d ≤ mlen y ((k : Int) + 1)) (h31 : d < 31) => month_go h1 (show y ≤ 9999 by omega) hm0 hm1 h4 h5 h31
                have hbd := ms_bd y (k + 1)
                have hstep : Hid (ms y (k + 1) = ms y k + mlen y ((k : Int) + 1)) := rfl
                have HGO := Lib.hid hgo
                clear hgo
                have hwk : y ≤ 9599 → wkL (daysL (y + 400) ((k : Int) + 1) 1) = wkL (daysL y ((k : Int) + 1) 1) := fun hy => week_400 h1 hy hm0 hm1
                have HWK := Lib.hid hwk
                clear hwk
                generalize mlen y ((k : Int) + 1) = ml at *
                generalize hwo : wr = wo at *
                go_wp2
                go_loopw [7] (fun dv wx => ∃ d : Int, dv = .int .i64 d ∧ 28 ≤ d ∧ d ≤ ml ∧ d ≤ 31 ∧ Below w.heap.size w wx) (fun dv _ => (31 - intOf dv).toNat)
                case atStart => exact ⟨28, by first | rfl | trivial, by omega, hl28, by omega, hbel⟩
                case round =>
                  obtain ⟨d, rfl, hd0, hd1, hd2, hbel⟩ := hrel
                  have tb := hbel
                  by_cases hd31 : d < 31
                  · have hg := HGO.out d (by omega) hd1 hd31
                    have b1 := days_bd y ((k : Int) + 1) d
                    have b2 := days_bd y ((k : Int) + 1) (d + 1)
                    have hDa := fun w => days_any y ((k : Int) + 1) d w
                    have hDb := fun w => days_any y ((k : Int) + 1) (d + 1) w
                    generalize daysL y ((k : Int) + 1) d = A at *
                    generalize daysL y ((k : Int) + 1) (d + 1) = B at *
                    have HDa := Lib.hid hDa
                    have HDb := Lib.hid hDb
                    clear hDa hDb
                    have q31 : decide (d < 31) = true := decide_eq_true hd31
                    by_cases hmore : d < ml
                    · rw [decide_eq_true hmore] at hg
                      go_wp2_with (first | (go_at_call 13; (with_reducible refine (HDa.out _).mono ?_); rintro e w1 ⟨rfl, hb1⟩; have tb := tb.trans (hb1.mono tb.size)) | (go_at_call 13; (with_reducible refine (HDb.out _).mono ?_); rintro e w1 ⟨rfl, hb1⟩; have tb := tb.trans (hb1.mono tb.size)))
                      go_roundw
                      case rel => exact ⟨d + 1, rfl, by omega, by omega, by omega, tb⟩
                      case measure => simp [intOf]; omega
                    · rw [decide_eq_false hmore] at hg
                      obtain rfl : d = ml := by omega
                      clear hmore
                      have hms := hS.out
                      have hst := hstep.out
                      have hN : Hid (S + d = ms y (k + 1)) := by show _ = _; rw [hst, hms]
                      have hsd : 0 ≤ S + d ∧ S + d ≤ 1000 := by rw [hN.out]; omega
                      clear hms hst
                      by_cases h9 : y ≤ 9599
                      · have q9 : decide (y ≤ 9599) = true := decide_eq_true h9
                        have hw := HWK.out h9
                        have b4 := days_bd (y + 400) ((k : Int) + 1) 1
                        have b5 := days_bd y ((k : Int) + 1) 1
                        have hD4 := fun w => days_any (y + 400) ((k : Int) + 1) 1 w
                        have hD5 := fun w => days_any y ((k : Int) + 1) 1 w
                        generalize daysL (y + 400) ((k : Int) + 1) 1 = A4 at *
                        generalize daysL y ((k : Int) + 1) 1 = A5 at *
                        have hK4 := fun w => week_any A4 w (by omega) (by omega)
                        have hK5 := fun w => week_any A5 w (by omega) (by omega)
                        rw [hw] at hK4
                        generalize wkL A5 = WK at *
                        have HD4 := Lib.hid hD4
                        have HD5 := Lib.hid hD5
                        have HK4 := Lib.hid hK4
                        have HK5 := Lib.hid hK5
                        clear hD4 hD5 hK4 hK5 hw HWK HGO
                        go_wp2_with (first | (go_at_call 13; (with_reducible refine (HDa.out _).mono ?_); rintro e w1 ⟨rfl, hb1⟩; have tb := tb.trans (hb1.mono tb.size)) | (go_at_call 13; (with_reducible refine (HDb.out _).mono ?_); rintro e w1 ⟨rfl, hb1⟩; have tb := tb.trans (hb1.mono tb.size)) | (go_at_call 13; (with_reducible refine (HD4.out _).mono ?_); rintro e w1 ⟨rfl, hb1⟩; have tb := tb.trans (hb1.mono tb.size)) | (go_at_call 13; (with_reducible refine (HD5.out _).mono ?_); rintro e w1 ⟨rfl, hb1⟩; have tb := tb.trans (hb1.mono tb.size)) | (go_at_call 14; (with_reducible refine (HK4.out _).mono ?_); rintro e w1 ⟨rfl, hb1⟩; have tb := tb.trans (hb1.mono tb.size)) | (go_at_call 14; (with_reducible refine (HK5.out _).mono ?_); rintro e w1 ⟨rfl, hb1⟩; have tb := tb.trans (hb1.mono tb.size)))
                        refine ⟨⟨k + 1, S + d, rfl, by go_num, by omega, hsd.1, hsd.2, hN, tb⟩, ?_⟩
                        simp [intOf]; omega
                      · have q9 : decide (y ≤ 9599) = false := decide_eq_false h9
                        clear HWK HGO
                        go_wp2_with (first | (go_at_call 13; (with_reducible refine (HDa.out _).mono ?_); rintro e w1 ⟨rfl, hb1⟩; have tb := tb.trans (hb1.mono tb.size)) | (go_at_call 13; (with_reducible refine (HDb.out _).mono ?_); rintro e w1 ⟨rfl, hb1⟩; have tb := tb.trans (hb1.mono tb.size)))
                        refine ⟨⟨k + 1, S + d, rfl, by go_num, by omega, hsd.1, hsd.2, hN, tb⟩, ?_⟩
                        simp [intOf]; omega
                  · have q31 : decide (d < 31) = false := decide_eq_false hd31
                    obtain rfl : d = ml := by omega
                    have hms := hS.out
                    have hst := hstep.out
                    have hN : Hid (S + d = ms y (k + 1)) := by show _ = _; rw [hst, hms]
                    have hsd : 0 ≤ S + d ∧ S + d ≤ 1000 := by rw [hN.out]; omega
                    clear hms hst
                    by_cases h9 : y ≤ 9599
                    · have q9 : decide (y ≤ 9599) = true := decide_eq_true h9
                      have hw := HWK.out h9
                      have b4 := days_bd (y + 400) ((k : Int) + 1) 1
                      have b5 := days_bd y ((k : Int) + 1) 1
                      have hD4 := fun w => days_any (y + 400) ((k : Int) + 1) 1 w
                      have hD5 := fun w => days_any y ((k : Int) + 1) 1 w
                      generalize daysL (y + 400) ((k : Int) + 1) 1 = A4 at *
                      generalize daysL y ((k : Int) + 1) 1 = A5 at *
                      have hK4 := fun w => week_any A4 w (by omega) (by omega)
                      have hK5 := fun w => week_any A5 w (by omega) (by omega)
                      rw [hw] at hK4
                      generalize wkL A5 = WK at *
                      have HD4 := Lib.hid hD4
                      have HD5 := Lib.hid hD5
                      have HK4 := Lib.hid hK4
                      have HK5 := Lib.hid hK5
                      clear hD4 hD5 hK4 hK5 hw HWK HGO
                      go_wp2_with (first | fail | (go_at_call 13; (with_reducible refine (HD4.out _).mono ?_); rintro e w1 ⟨rfl, hb1⟩; have tb := tb.trans (hb1.mono tb.size)) | (go_at_call 13; (with_reducible refine (HD5.out _).mono ?_); rintro e w1 ⟨rfl, hb1⟩; have tb := tb.trans (hb1.mono tb.size)) | (go_at_call 14; (with_reducible refine (HK4.out _).mono ?_); rintro e w1 ⟨rfl, hb1⟩; have tb := tb.trans (hb1.mono tb.size)) | (go_at_call 14; (with_reducible refine (HK5.out _).mono ?_); rintro e w1 ⟨rfl, hb1⟩; have tb := tb.trans (hb1.mono tb.size)))
                      refine ⟨⟨k + 1, S + d, rfl, by go_num, by omega, hsd.1, hsd.2, hN, tb⟩, ?_⟩
                      simp [intOf]; omega
                    · have q9 : decide (y ≤ 9599) = false := decide_eq_false h9
                      clear HWK HGO
                      go_wp2_with fail
                      refine ⟨⟨k + 1, S + d, rfl, by go_num, by omega, hsd.1, hsd.2, hN, tb⟩, ?_⟩
                      simp [intOf]; omega
              · obtain rfl : k = 12 := by omega
                have s1 : (S == 365) = true := beq_iff_eq.2 (by rw [hS.out]; exact H12.out)
                have hdf := HDf.out
                have b4 := days_bd (y + 1) 1 1
                have b5 := days_bd y 1 1
                have hD4 := fun w => days_any (y + 1) 1 1 w
                have hD5 := fun w => days_any y 1 1 w
                generalize daysL (y + 1) 1 1 = A4 at *
                generalize daysL y 1 1 = A5 at *
                have s2 : (A4 - A5 == 365) = true := beq_iff_eq.2 hdf
                have HD4 := Lib.hid hD4
                have HD5 := Lib.hid hD5
                have tb := hbel
                clear hD4 hD5 hdf HDf H12
                go_wp2_with (first | (go_at_call 13; (with_reducible refine (HD4.out _).mono ?_); rintro e w1 ⟨rfl, hb1⟩; have tb := tb.trans (hb1.mono tb.size)) | (go_at_call 13; (with_reducible refine (HD5.out _).mono ?_); rintro e w1 ⟨rfl, hb1⟩; have tb := tb.trans (hb1.mono tb.size)))
                go_ret
                exact ⟨rfl, tb⟩
    · have q2 : decide (9998 < y) = true := decide_eq_true (by omega)
      go_enter Tryd.func6, Tryd.ntmps6
      go_wp2_with (go_at_call 7; (with_reducible refine HS.out.mono ?_); rintro e w1 ⟨rfl, hb1⟩; have tb := tb.trans (hb1.mono tb.size))
      go_ret
      exact ⟨rfl, tb⟩
  · have q1 : decide (y < 1) = true := decide_eq_true (by omega)
    go_enter Tryd.func6, Tryd.ntmps6
    go_wp2_with (go_at_call 7; (with_reducible refine HS.out.mono ?_); rintro e w1 ⟨rfl, hb1⟩; have tb := tb.trans (hb1.mono tb.size))
    go_ret
    exact ⟨rfl, tb⟩
end Go.Proofs.YtlgnhngbmciaoaaDoor
