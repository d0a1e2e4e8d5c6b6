/- Walk: the law NumBack. -/
import Derived.Test.YtjlbnboggcnamaaDoorLaw1
namespace Go.Proofs.YtjlbnboggcnamaaDoor
open Go.RowKit Pk Hx C1

theorem str_mk (s : ByteArray) : (⟨s.data.toList.toArray⟩ : ByteArray) = s := by simp
theorem parse_full {l : List UInt8} : parseL l (-9223372036854775808) 9223372036854775807 = (match prs l with | some v => (v, true) | none => (0, false)) := by
  unfold parseL
  cases h : prs l with
  | none => rfl
  | some v =>
    have := (itoa_prs h).2
    show (if _ then _ else _) = _
    rw [if_pos this]
set_option maxHeartbeats 4000000 in
theorem back_any (a : Int) (s : ByteArray) (w : World) (h : Ready w) (ha0 : -9223372036854775808 ≤ a) (ha1 : a ≤ 9223372036854775807) :
    Calls Tryd.prog 4 #[.int .i64 a, .string s] w fun e w' => e = .returned (.bool true) ∧ Below w.heap.size w w' := by
  have H := Lib.hid h
  have tb := Below.refl w.heap.size w
  clear h
  by_cases hs : s.size ≤ 200
  · have hsl : s.data.toList.length = s.size := rfl
    obtain ⟨T, hT, hTl, hTs⟩ := arr_ex1 (Lib.itoa a)
    have hTb : T.size ≤ 20 := by have := itoa_len ha0 ha1; omega
    have t1 := fun w hw => text_any a w ha0 ha1 hw
    rw [← hT] at t1
    have T1 := Lib.hid t1
    have q1 := fun w hw => parse_rd T (-9223372036854775808) 9223372036854775807 w (by omega) hw
    rw [hTl, parse_full, prs_itoa ha0 ha1] at q1
    have Q1 := Lib.hid q1
    obtain ⟨X, hX, hXl, hXs⟩ := arr_ex1 (hexL s.data.toList)
    have hXb : X.size = 2 * s.size := by rw [hXs, hexL_length, hsl]
    have x1 := fun w => hexP_any s w (by omega)
    rw [← hX] at x1
    have X1 := Lib.hid x1
    have u1 := fun w => unhexP_any X w (by omega)
    rw [hXl, unhex_hex] at u1
    simp only [Option.getD_some, Option.isSome_some, str_mk] at u1
    have U1 := Lib.hid u1
    have m1 := fun w hw => parse_rd s (-9223372036854775808) 9223372036854775807 w (by omega) hw
    rw [parse_full] at m1
    have n1 := fun w => unhexP_any s w (by omega)
    have hXb1 : X.size ≤ 2 * s.size := by omega
    have hXb2 : 2 * s.size ≤ X.size := by omega
    have hq : ((X.size : Int) != 2 * (s.size : Int)) = false := by rw [bne_eq_false_iff_eq]; omega
    clear t1 q1 x1 u1 hT hTl hTs hX hXl hXs hXb
    obtain ⟨o, ho⟩ : ∃ o, o = prs s.data.toList := ⟨_, rfl⟩
    rw [← ho] at m1
    have hm : (o = none ∧ Hid (∀ w, Ready w → Calls Tryd.prog 7 #[.string s, .int .i64 (-9223372036854775808), .int .i64 9223372036854775807] w fun e w' => e = .returned (.tuple #[.int .i64 0, .bool false]) ∧ Below w.heap.size w w')) ∨
        (∃ v, o = some v ∧ Hid (∀ w, Ready w → Calls Tryd.prog 7 #[.string s, .int .i64 (-9223372036854775808), .int .i64 9223372036854775807] w fun e w' => e = .returned (.tuple #[.int .i64 v, .bool true]) ∧ Below w.heap.size w w') ∧ Hid (∀ w, Tab w → Calls Tryd.prog 11 #[.int .i64 v] w fun e w' => e = .returned (.string s) ∧ Below w.heap.size w w')) := by
      cases o with
      | none => exact .inl ⟨rfl, m1⟩
      | some v =>
        have hp := itoa_prs ho.symm
        refine .inr ⟨v, rfl, m1, fun w hw => ?_⟩
        have := text_any v w hp.2.1 hp.2.2 hw
        rw [hp.1, str_mk] at this
        exact this
    clear m1 ho
    have hu : Hid (∀ w, Calls Tryd.prog 9 #[.string s] w fun e w' => e = .returned (.tuple #[.string ⟨#[]⟩, .bool false]) ∧ Below w.heap.size w w') ∨
        (∃ U Y : ByteArray, 2 * U.size ≤ s.size ∧ s.size ≤ 2 * U.size ∧ Hid (∀ w, Calls Tryd.prog 9 #[.string s] w fun e w' => e = .returned (.tuple #[.string U, .bool true]) ∧ Below w.heap.size w w') ∧
          Hid (∀ w, Calls Tryd.prog 15 #[.string U] w fun e w' => e = .returned (.string Y) ∧ Below w.heap.size w w') ∧ Hid (∀ w, Calls Tryd.prog 9 #[.string Y] w fun e w' => e = .returned (.tuple #[.string U, .bool true]) ∧ Below w.heap.size w w')) := by
      cases hx : unhexL s.data.toList with
      | none => rw [hx] at n1; exact .inl n1
      | some u =>
        rw [hx] at n1
        have hl := unhexL_length _ _ hx
        rw [hsl] at hl
        obtain ⟨U, hU, hUl, hUs⟩ := arr_ex1 u
        obtain ⟨Y, hY, hYl, hYs⟩ := arr_ex1 (hexL U.data.toList)
        rw [hexL_length] at hYs
        have hUl' : U.data.toList.length = U.size := rfl
        refine .inr ⟨U, Y, by omega, by omega, ?_, ?_, ?_⟩
        · intro w; rw [hU]; exact n1 w
        · intro w; rw [hY]; exact hexP_any U w (by omega)
        · intro w
          have := unhexP_any Y w (by omega)
          rw [hYl, unhex_hex] at this
          simp only [Option.getD_some, Option.isSome_some, str_mk] at this
          exact this
    clear n1 hsl
    rcases hm with ⟨-, M1⟩ | ⟨v, -, M1, V1⟩
    · rcases hu with N1 | ⟨U, Y, l1, l2, N1, Y1, Z1⟩
      · go_enter Tryd.func4, Tryd.ntmps4
        go_wp2_with (first
            | (go_at_call 6; (with_reducible refine (small_any _ (H.out.later tb)).mono ?_); rintro e w1 ⟨rfl, hb1⟩; have tb := tb.trans (hb1.mono tb.size))
            | (go_at_call 11; (with_reducible refine (T1.out _ (H.out.later tb).tab).mono ?_); rintro e w1 ⟨rfl, hb1⟩; have tb := tb.trans (hb1.mono tb.size))
            | (go_at_call 7; (with_reducible refine (Q1.out _ (H.out.later tb)).mono ?_); rintro e w1 ⟨rfl, hb1⟩; have tb := tb.trans (hb1.mono tb.size))
            | (go_at_call 7; (with_reducible refine (M1.out _ (H.out.later tb)).mono ?_); rintro e w1 ⟨rfl, hb1⟩; have tb := tb.trans (hb1.mono tb.size))
            | (go_at_call 15; (with_reducible refine (X1.out _).mono ?_); rintro e w1 ⟨rfl, hb1⟩; have tb := tb.trans (hb1.mono tb.size))
            | (go_at_call 9; (with_reducible refine (U1.out _).mono ?_); rintro e w1 ⟨rfl, hb1⟩; have tb := tb.trans (hb1.mono tb.size))
            | (go_at_call 9; (with_reducible refine (N1.out _).mono ?_); rintro e w1 ⟨rfl, hb1⟩; have tb := tb.trans (hb1.mono tb.size)))
        go_ret
        exact ⟨rfl, tb⟩
      · have hq2 : ((U.size : Int) * 2 == (s.size : Int)) = true := beq_iff_eq.2 (by omega)
        go_enter Tryd.func4, Tryd.ntmps4
        go_wp2_with (first
            | (go_at_call 6; (with_reducible refine (small_any _ (H.out.later tb)).mono ?_); rintro e w1 ⟨rfl, hb1⟩; have tb := tb.trans (hb1.mono tb.size))
            | (go_at_call 11; (with_reducible refine (T1.out _ (H.out.later tb).tab).mono ?_); rintro e w1 ⟨rfl, hb1⟩; have tb := tb.trans (hb1.mono tb.size))
            | (go_at_call 7; (with_reducible refine (Q1.out _ (H.out.later tb)).mono ?_); rintro e w1 ⟨rfl, hb1⟩; have tb := tb.trans (hb1.mono tb.size))
            | (go_at_call 7; (with_reducible refine (M1.out _ (H.out.later tb)).mono ?_); rintro e w1 ⟨rfl, hb1⟩; have tb := tb.trans (hb1.mono tb.size))
            | (go_at_call 15; (with_reducible refine (X1.out _).mono ?_); rintro e w1 ⟨rfl, hb1⟩; have tb := tb.trans (hb1.mono tb.size))
            | (go_at_call 15; (with_reducible refine (Y1.out _).mono ?_); rintro e w1 ⟨rfl, hb1⟩; have tb := tb.trans (hb1.mono tb.size))
            | (go_at_call 9; (with_reducible refine (U1.out _).mono ?_); rintro e w1 ⟨rfl, hb1⟩; have tb := tb.trans (hb1.mono tb.size))
            | (go_at_call 9; (with_reducible refine (N1.out _).mono ?_); rintro e w1 ⟨rfl, hb1⟩; have tb := tb.trans (hb1.mono tb.size))
            | (go_at_call 9; (with_reducible refine (Z1.out _).mono ?_); rintro e w1 ⟨rfl, hb1⟩; have tb := tb.trans (hb1.mono tb.size)))
        go_ret
        exact ⟨rfl, tb⟩
    · rcases hu with N1 | ⟨U, Y, l1, l2, N1, Y1, Z1⟩
      · go_enter Tryd.func4, Tryd.ntmps4
        go_wp2_with (first
            | (go_at_call 6; (with_reducible refine (small_any _ (H.out.later tb)).mono ?_); rintro e w1 ⟨rfl, hb1⟩; have tb := tb.trans (hb1.mono tb.size))
            | (go_at_call 11; (with_reducible refine (T1.out _ (H.out.later tb).tab).mono ?_); rintro e w1 ⟨rfl, hb1⟩; have tb := tb.trans (hb1.mono tb.size))
            | (go_at_call 11; (with_reducible refine (V1.out _ (H.out.later tb).tab).mono ?_); rintro e w1 ⟨rfl, hb1⟩; have tb := tb.trans (hb1.mono tb.size))
            | (go_at_call 7; (with_reducible refine (Q1.out _ (H.out.later tb)).mono ?_); rintro e w1 ⟨rfl, hb1⟩; have tb := tb.trans (hb1.mono tb.size))
            | (go_at_call 7; (with_reducible refine (M1.out _ (H.out.later tb)).mono ?_); rintro e w1 ⟨rfl, hb1⟩; have tb := tb.trans (hb1.mono tb.size))
            | (go_at_call 15; (with_reducible refine (X1.out _).mono ?_); rintro e w1 ⟨rfl, hb1⟩; have tb := tb.trans (hb1.mono tb.size))
            | (go_at_call 9; (with_reducible refine (U1.out _).mono ?_); rintro e w1 ⟨rfl, hb1⟩; have tb := tb.trans (hb1.mono tb.size))
            | (go_at_call 9; (with_reducible refine (N1.out _).mono ?_); rintro e w1 ⟨rfl, hb1⟩; have tb := tb.trans (hb1.mono tb.size)))
        go_ret
        exact ⟨rfl, tb⟩
      · have hq2 : ((U.size : Int) * 2 == (s.size : Int)) = true := beq_iff_eq.2 (by omega)
        go_enter Tryd.func4, Tryd.ntmps4
        go_wp2_with (first
            | (go_at_call 6; (with_reducible refine (small_any _ (H.out.later tb)).mono ?_); rintro e w1 ⟨rfl, hb1⟩; have tb := tb.trans (hb1.mono tb.size))
            | (go_at_call 11; (with_reducible refine (T1.out _ (H.out.later tb).tab).mono ?_); rintro e w1 ⟨rfl, hb1⟩; have tb := tb.trans (hb1.mono tb.size))
            | (go_at_call 11; (with_reducible refine (V1.out _ (H.out.later tb).tab).mono ?_); rintro e w1 ⟨rfl, hb1⟩; have tb := tb.trans (hb1.mono tb.size))
            | (go_at_call 7; (with_reducible refine (Q1.out _ (H.out.later tb)).mono ?_); rintro e w1 ⟨rfl, hb1⟩; have tb := tb.trans (hb1.mono tb.size))
            | (go_at_call 7; (with_reducible refine (M1.out _ (H.out.later tb)).mono ?_); rintro e w1 ⟨rfl, hb1⟩; have tb := tb.trans (hb1.mono tb.size))
            | (go_at_call 15; (with_reducible refine (X1.out _).mono ?_); rintro e w1 ⟨rfl, hb1⟩; have tb := tb.trans (hb1.mono tb.size))
            | (go_at_call 15; (with_reducible refine (Y1.out _).mono ?_); rintro e w1 ⟨rfl, hb1⟩; have tb := tb.trans (hb1.mono tb.size))
            | (go_at_call 9; (with_reducible refine (U1.out _).mono ?_); rintro e w1 ⟨rfl, hb1⟩; have tb := tb.trans (hb1.mono tb.size))
            | (go_at_call 9; (with_reducible refine (N1.out _).mono ?_); rintro e w1 ⟨rfl, hb1⟩; have tb := tb.trans (hb1.mono tb.size))
            | (go_at_call 9; (with_reducible refine (Z1.out _).mono ?_); rintro e w1 ⟨rfl, hb1⟩; have tb := tb.trans (hb1.mono tb.size)))
        go_ret
        exact ⟨rfl, tb⟩
  · go_enter Tryd.func4, Tryd.ntmps4
    go_wp2_with (go_at_call 6; (with_reducible refine (small_any _ (H.out.later tb)).mono ?_); rintro e w1 ⟨rfl, hb1⟩; have tb := tb.trans (hb1.mono tb.size))
    go_ret
    exact ⟨rfl, tb⟩
end Go.Proofs.YtjlbnboggcnamaaDoor
