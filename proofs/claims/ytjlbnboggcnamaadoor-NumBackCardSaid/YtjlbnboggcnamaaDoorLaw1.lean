/- Walks: the laws of chapter 01. -/
import Derived.Test.YtjlbnboggcnamaaDoorNum1b
import Derived.Test.YtjlbnboggcnamaaDoorRef1d
namespace Go.Proofs.YtjlbnboggcnamaaDoor
open Go.RowKit Pk Hx C1

theorem unhexP_any (s : ByteArray) (w : World) (hs : s.size ≤ 1000000) :
    Calls Tryd.prog 9 #[.string s] w fun e w' => e = .returned (.tuple #[.string ⟨((unhexL s.data.toList).getD []).toArray⟩, .bool (unhexL s.data.toList).isSome]) ∧ Below w.heap.size w w' := by
  by_cases h : s.size % 2 = 1
  · rw [unhexL_odd s.data.toList h]
    exact (unhex_odd s w h).mono fun e w' ⟨h1, h2⟩ => ⟨h1, h2 ▸ Below.refl _ _⟩
  · exact unhex_even s w (by omega) (by omega)
/-- what the calls lean on: the table of powers, and the cell of the library's ErrRange -/
structure Ready (w : World) : Prop where
  tab : Tab w
  err : ∃ ev, w.cell? ⟨1, 0, none⟩ = some ev ∧ (ev = .nilIface ∨ ∃ te pe, ev = .iface te pe)
theorem Ready.later {w w' : World} (h : Ready w) (hb : Below w.heap.size w w') : Ready w' := ⟨h.tab.later hb, by obtain ⟨ev, h1, h2⟩ := h.err; exact ⟨ev, cell_later hb h1, h2⟩⟩
theorem parse_rd (s : ByteArray) (lo hi : Int) (w : World) (hs : s.size ≤ 1000000) (h : Ready w) :
    Calls Tryd.prog 7 #[.string s, .int .i64 lo, .int .i64 hi] w fun e w' => e = .returned (.tuple #[.int .i64 (parseL s.data.toList lo hi).1, .bool (parseL s.data.toList lo hi).2]) ∧ Below w.heap.size w w' := by
  obtain ⟨ev, h1, h2⟩ := h.err
  exact parse_any s lo hi w hs ev h1 h2
theorem it305 : Lib.itoa (-305) = [45, 51, 48, 53] := by
  rw [itoa_ne (by decide), show (-305 : Int).natAbs = 305 from rfl, dd_snoc (by decide), dd_snoc (by decide), Lib.decDigits_one (by decide)]; rfl
theorem it10 : Lib.itoa 10 = [49, 48] := by
  rw [itoa_pos (by decide), show (10 : Int).toNat = 10 from rfl, dd_snoc (by decide), Lib.decDigits_one (by decide)]; rfl
theorem it1234 : Lib.itoa 1234 = [49, 50, 51, 52] := by
  rw [itoa_pos (by decide), show (1234 : Int).toNat = 1234 from rfl, dd_snoc (by decide), dd_snoc (by decide), dd_snoc (by decide), Lib.decDigits_one (by decide)]; rfl
theorem it0 : Lib.itoa 0 = [48] := by rw [itoa_pos (by decide)]; exact dd_zero
theorem it7 : Lib.itoa 7 = [55] := by rw [itoa_pos (by decide), show (7 : Int).toNat = 7 from rfl, Lib.decDigits_one (by decide)]; rfl
theorem ps305 : parseL [45, 51, 48, 53] (-305) 9 = (-305, true) := by
  have := prs_itoa (n := -305) (by decide) (by decide)
  rw [it305] at this
  rw [parseL, this]; rfl
theorem ps10 : parseL [49, 48] 0 9 = (0, false) := by
  have := prs_itoa (n := 10) (by decide) (by decide)
  rw [it10] at this
  rw [parseL, this]; rfl
theorem ps007 : parseL [48, 48, 55] 0 9 = (0, false) := by
  rw [parseL, prs_none]
  · rfl
  · intro h
    rcases h.1.2.2 with h | h
    · exact h 48 rfl rfl
    · exact absurd h (by decide)
set_option maxHeartbeats 4000000 in
theorem small_any (w : World) (h : Ready w) : Calls Tryd.prog 6 #[] w fun e w' => e = .returned (.bool true) ∧ Below w.heap.size w w' := by
  have e1 := ps305
  have e2 := ps10
  have e3 := ps007
  have e4 : unhexL [48, 48, 102, 70] = some [0, 255] := by decide +kernel
  have e5 : unhexL [48] = none := by decide +kernel
  have e6 : unhexL [48, 103] = none := by decide +kernel
  have e7 := it305
  have e8 := it0
  have e9 : padL 7 3 = [48, 48, 55] := by unfold padL; rw [it7]; rfl
  have e10 : padL 1234 3 = [49, 50, 51, 52] := by unfold padL; rw [it1234]; rfl
  have e11 : padL (-1) 3 = [] := by unfold padL; rw [if_pos (by decide)]
  have e12 : hexL [0, 255] = [48, 48, 102, 102] := by decide +kernel
  have e13 : clampI 5 1 3 = 3 := by decide
  have e14 : clampI 0 1 3 = 1 := by decide
  have e15 : clampI 2 1 3 = 2 := by decide
  have H := Lib.hid h
  have tb := Below.refl w.heap.size w
  clear h
  go_enter Tryd.func6, Tryd.ntmps6
  go_wp2_with (first
            | (go_at_call 7; (with_reducible refine (parse_rd _ _ _ _ (by decide) (H.out.later tb)).mono ?_); rintro e w1 ⟨rfl, hb1⟩; have tb := tb.trans (hb1.mono tb.size))
            | (go_at_call 9; (with_reducible refine (unhexP_any _ _ (by decide)).mono ?_); rintro e w1 ⟨rfl, hb1⟩; have tb := tb.trans (hb1.mono tb.size))
            | (go_at_call 11; (with_reducible refine (text_any _ _ (by decide) (by decide) (H.out.later tb).tab).mono ?_); rintro e w1 ⟨rfl, hb1⟩; have tb := tb.trans (hb1.mono tb.size))
            | (go_at_call 13; (with_reducible refine (pad_any _ _ _ (by decide) (by decide) (H.out.later tb).tab).mono ?_); rintro e w1 ⟨rfl, hb1⟩; have tb := tb.trans (hb1.mono tb.size))
            | (go_at_call 15; (with_reducible refine (hexP_any _ _ (by decide)).mono ?_); rintro e w1 ⟨rfl, hb1⟩; have tb := tb.trans (hb1.mono tb.size))
            | (go_at_call 17; (with_reducible refine (clamp_any _ _ _ _).mono ?_); rintro e w1 ⟨rfl, rfl⟩))
  go_ret
  exact ⟨rfl, tb⟩

set_option maxHeartbeats 4000000 in
theorem tells_any (a b c : Int) (s : ByteArray) (w : World) (h : Ready w) (ha0 : -9223372036854775808 ≤ a) (ha1 : a ≤ 9223372036854775807) :
    Calls Tryd.prog 3 #[.int .i64 a, .int .i64 b, .int .i64 c, .string s] w fun e w' => e = .returned (.bool true) ∧ Below w.heap.size w w' := by
  have H := Lib.hid h
  have tb := Below.refl w.heap.size w
  clear h
  by_cases hs : s.size ≤ 200
  · obtain ⟨P, hP⟩ : ∃ P, P = parseL s.data.toList b c := ⟨_, rfl⟩
    obtain ⟨U, hU⟩ : ∃ U : ByteArray, U = ⟨((unhexL s.data.toList).getD []).toArray⟩ := ⟨_, rfl⟩
    obtain ⟨ub, hub⟩ : ∃ ub, ub = (unhexL s.data.toList).isSome := ⟨_, rfl⟩
    obtain ⟨X, hX⟩ : ∃ X : ByteArray, X = ⟨(hexL s.data.toList).toArray⟩ := ⟨_, rfl⟩
    obtain ⟨T, hT⟩ : ∃ T : ByteArray, T = ⟨(Lib.itoa a).toArray⟩ := ⟨_, rfl⟩
    have p1 := fun w hw => parse_rd s b c w (by omega) hw
    have p2 := fun w => parseR_any s b c w (by omega)
    rw [← hP] at p1 p2
    have u1 := fun w => unhexP_any s w (by omega)
    have u2 := fun w => unhexRef_any s w (by omega)
    rw [← hU, ← hub] at u1 u2
    have x1 := fun w => hexP_any s w (by omega)
    have x2 := fun w => hexR_any s w (by omega)
    rw [← hX] at x1 x2
    have t1 := fun w hw => text_any a w ha0 ha1 hw
    have t2 := fun w => textR_any a.natAbs a w (Nat.le_refl _) ha0 ha1
    rw [← hT] at t1 t2
    have P1 := Lib.hid p1
    have P2 := Lib.hid p2
    have U1 := Lib.hid u1
    have U2 := Lib.hid u2
    have X1 := Lib.hid x1
    have X2 := Lib.hid x2
    have T1 := Lib.hid t1
    have T2 := Lib.hid t2
    clear p1 p2 u1 u2 x1 x2 t1 t2 hP hU hub hX hT
    go_enter Tryd.func3, Tryd.ntmps3
    go_wp2_with (first
            | (go_at_call 6; (with_reducible refine (small_any _ (H.out.later tb)).mono ?_); rintro e w1 ⟨rfl, hb1⟩; have tb := tb.trans (hb1.mono tb.size))
            | (go_at_call 7; (with_reducible refine (P1.out _ (H.out.later tb)).mono ?_); rintro e w1 ⟨rfl, hb1⟩; have tb := tb.trans (hb1.mono tb.size))
            | (go_at_call 8; (with_reducible refine (P2.out _).mono ?_); rintro e w1 ⟨rfl, hb1⟩; have tb := tb.trans (hb1.mono tb.size))
            | (go_at_call 9; (with_reducible refine (U1.out _).mono ?_); rintro e w1 ⟨rfl, hb1⟩; have tb := tb.trans (hb1.mono tb.size))
            | (go_at_call 10; (with_reducible refine (U2.out _).mono ?_); rintro e w1 ⟨rfl, hb1⟩; have tb := tb.trans (hb1.mono tb.size))
            | (go_at_call 11; (with_reducible refine (T1.out _ (H.out.later tb).tab).mono ?_); rintro e w1 ⟨rfl, hb1⟩; have tb := tb.trans (hb1.mono tb.size))
            | (go_at_call 12; (with_reducible refine (T2.out _).mono ?_); rintro e w1 ⟨rfl, hb1⟩; have tb := tb.trans (hb1.mono tb.size))
            | (go_at_call 13; (with_reducible refine (pad_any _ _ _ ha0 ha1 (H.out.later tb).tab).mono ?_); rintro e w1 ⟨rfl, hb1⟩; have tb := tb.trans (hb1.mono tb.size))
            | (go_at_call 14; (with_reducible refine (padR_any _ _ _ ha0 ha1).mono ?_); rintro e w1 ⟨rfl, hb1⟩; have tb := tb.trans (hb1.mono tb.size))
            | (go_at_call 15; (with_reducible refine (X1.out _).mono ?_); rintro e w1 ⟨rfl, hb1⟩; have tb := tb.trans (hb1.mono tb.size))
            | (go_at_call 16; (with_reducible refine (X2.out _).mono ?_); rintro e w1 ⟨rfl, hb1⟩; have tb := tb.trans (hb1.mono tb.size))
            | (go_at_call 17; (with_reducible refine (clamp_any _ _ _ _).mono ?_); rintro e w1 ⟨rfl, rfl⟩)
            | (go_at_call 18; (with_reducible refine (clampR_any _ _ _ _).mono ?_); rintro e w1 ⟨rfl, rfl⟩))
    go_ret
    exact ⟨rfl, tb⟩
  · go_enter Tryd.func3, Tryd.ntmps3
    go_wp2_with (go_at_call 6; (with_reducible refine (small_any _ (H.out.later tb)).mono ?_); rintro e w1 ⟨rfl, hb1⟩; have tb := tb.trans (hb1.mono tb.size))
    go_ret
    exact ⟨rfl, tb⟩
end Go.Proofs.YtjlbnboggcnamaaDoor
