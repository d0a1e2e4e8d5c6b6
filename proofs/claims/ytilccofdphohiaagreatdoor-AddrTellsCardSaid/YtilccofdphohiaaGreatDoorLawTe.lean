/- Walks: chapter 11's laws: AddrTells. -/
import Derived.Test.YtilccofdphohiaaGreatDoorLawBlanks
import Derived.Test.YtilccofdphohiaaGreatDoorLawF
import Derived.Test.YtilccofdphohiaaGreatDoorRBW
namespace Go.Proofs.YtilccofdphohiaaGreatDoor
open Go.RowKit Pk Ad Tk Fo Su

theorem idAt_len (r : List UInt8) : (idAt r).length ≤ 1 := by
  unfold idAt
  simp only
  split <;> simp
theorem idsL_len : ∀ l : List UInt8, (idsL l).length ≤ l.length
  | [] => Nat.le_refl _
  | c :: r => by
    have ih := idsL_len r
    have h1 := idAt_len r
    unfold idsL
    split
    · rw [List.length_append, List.length_cons]; omega
    · rw [List.length_cons]; omega
theorem rparse_prs (s : ByteArray) (w : World) (hs : s.size ≤ 1000000) : Calls Tryz.prog 12 #[.string s] w (Prs (adrsL s.data.toList) (parseA s.data.toList).2 w) :=
  (rparse_any s w hs).mono fun _ _ h => pars_to h (adrsL_lst _)
set_option maxHeartbeats 4000000 in
set_option maxRecDepth 100000 in
theorem tells_of (s : ByteArray) (w : World) (h : Ra w) : Calls Tryz.prog 3 #[.string s] w (Truth w) := by
  have HS := Lib.hid (small_any w h)
  have HRa := Lib.hid h
  clear h
  have tb := Below.refl w.heap.size w
  by_cases hs : s.size ≤ 1000
  · have q1 : decide ((1000 : Int) < (s.size : Int)) = false := decide_eq_false (by omega)
    have q1' : decide ((s.size : Int) > 1000) = false := decide_eq_false (by omega)
    have hP1 := fun W => parse_prs s W (by omega)
    have hP2 := fun W => rparse_prs s W (by omega)
    have hln := adrsL_len s (by omega)
    have hI1 := fun W (hb : Below w.heap.size w W) => (HRa.out.later hb).elim fun m hm => ids_any s W m (by omega) hm
    have hI2 := fun W => rids_any s W (by omega)
    have hil : (idsB s.data.toList).length ≤ 1000000 := by
      unfold idsB
      rw [List.length_map]
      have := idsL_len s.data.toList
      rw [dataL] at this
      omega
    generalize adrsL s.data.toList = ys at *
    generalize (parseA s.data.toList).2 = pb at *
    generalize idsB s.data.toList = is at *
    have HP1 := Lib.hid hP1
    have HP2 := Lib.hid hP2
    have HI1 := Lib.hid hI1
    have HI2 := Lib.hid hI2
    clear hP1 hP2 hI1 hI2 hs
    have hpb : (pb == pb) = true := beq_self_eq_true pb
    cases pb <;> (
      go_enter Tryz.func3, Tryz.ntmps3
      go_wp2_with (first
        | (go_at_call 10; (with_reducible refine HS.out.mono ?_); rintro e w1 ⟨rfl, hb1⟩; have tb := tb.trans hb1)
        | (go_at_call 11; (with_reducible refine (HP1.out _).mono ?_); rintro e w4 ⟨v4, rfl, -, hs4, hb4⟩; have tb := tb.trans (hb4.mono tb.size))
        | (go_at_call 12; (with_reducible refine (HP2.out _).mono ?_); rintro e w5 ⟨v5, rfl, -, hs5, hb5⟩; have tb := tb.trans (hb5.mono tb.size))
        | (go_at_call 13; (with_reducible refine (sameA_refl _ _ ys _ (hs4.later hb5) hs5 hln).mono ?_); rintro e w6 ⟨rfl, hb6⟩; have tb := tb.trans (hb6.mono tb.size))
        | (go_at_call 15; (with_reducible refine (HI1.out _ tb).mono ?_); rintro e w7 ⟨v7, rfl, hown7, hb7⟩; have tb := tb.trans (hb7.mono tb.size))
        | (go_at_call 16; (with_reducible refine (HI2.out _).mono ?_); rintro e w8 ⟨v8, rfl, hown8, hb8⟩; have tb := tb.trans (hb8.mono tb.size))
        | (go_at_call 14; (with_reducible refine (sameT_refl _ _ is _ ((TxSees.of_owns hown7).later hb8) (TxSees.of_owns hown8) hil).mono ?_); rintro e w9 ⟨rfl, hb9⟩; have tb := tb.trans (hb9.mono tb.size)))
      go_ret
      exact ⟨by first | rfl | (simp; done), tb⟩)
  · have q1 : decide ((1000 : Int) < (s.size : Int)) = true := decide_eq_true (by omega)
    have q1' : decide ((s.size : Int) > 1000) = true := decide_eq_true (by omega)
    go_enter Tryz.func3, Tryz.ntmps3
    go_wp2_with (go_at_call 10; (with_reducible refine HS.out.mono ?_); rintro e w1 ⟨rfl, hb1⟩)
    go_ret
    exact ⟨rfl, hb1⟩
end Go.Proofs.YtilccofdphohiaaGreatDoor
