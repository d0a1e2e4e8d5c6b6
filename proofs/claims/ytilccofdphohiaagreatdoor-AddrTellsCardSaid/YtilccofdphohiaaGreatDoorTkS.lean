/- Plain: a text of atoms is one whose words between the spaces are atoms. -/
import Derived.Test.YtilccofdphohiaaGreatDoorSplP
import Derived.Test.YtilccofdphohiaaGreatDoorTkL
namespace Tk
open Go Go.RowKit Pk Su Fo

def wordOk (w : List UInt8) : Bool := !w.isEmpty && w.all atm
theorem word_tw (w : List UInt8) : w.all atm = decide ((w.takeWhile atm).length = w.length) := by
  induction w with
  | nil => rfl
  | cons c r ih =>
    rw [List.all_cons, List.takeWhile_cons, ih]
    cases h : atm c with
    | true => rw [if_pos rfl, Bool.true_and, List.length_cons, List.length_cons]; exact decide_eq_decide.2 (by omega)
    | false => rw [if_neg (by decide), Bool.false_and, List.length_nil, List.length_cons]; exact (decide_eq_false (by omega)).symm
/-- the first word, with what stood ahead of it -/
theorem plF_spl : ∀ (l : List UInt8) (w : Bool), plF w l = match spl 32 l with
    | [] => false
    | h :: t => ((w || !h.isEmpty) && h.all atm) && t.all wordOk
  | [], w => by simp [plF, spl]
  | c :: r, w => by
    unfold plF spl
    by_cases hc : c = 32
    · rw [if_pos hc, if_pos hc, plF_spl r false]
      cases hs : spl 32 r with
      | nil => exact absurd hs (spl_ne 32 r)
      | cons h t => simp [wordOk]
    · rw [if_neg hc, if_neg hc, plF_spl r true]
      cases hs : spl 32 r with
      | nil => exact absurd hs (spl_ne 32 r)
      | cons h t => simp [Bool.and_assoc]
theorem plainQ_spl (l : List UInt8) : plainQ l = (spl 32 l).all wordOk := by
  unfold plainQ
  rw [plF_spl]
  cases hs : spl 32 l with
  | nil => exact absurd hs (spl_ne 32 l)
  | cons h t => simp [wordOk]
end Tk
