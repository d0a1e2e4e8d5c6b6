/- Walks: chapter 13's laws: small, few. -/
import Derived.Test.YtnclbbgdfaeilaaGreatDoorWorld13
namespace Go.Proofs.YtnclbbgdfaeilaaGreatDoor
open Go.RowKit Pk U8 Cs Wd

theorem fewW_any (s : ByteArray) (w : World) : Calls Tryz.prog 7 #[.string s] w fun e w' => e = .returned (.bool (decide (s.size ≤ 300))) ∧ w = w' := by
  by_cases h : s.size ≤ 300
  · rw [decide_eq_true h]
    go_enter Tryz.func7, Tryz.ntmps7
    go_wp2
    go_ret
    exact ⟨by simp; omega, rfl⟩
  · rw [decide_eq_false h]
    go_enter Tryz.func7, Tryz.ntmps7
    go_wp2
    go_ret
    exact ⟨by simp; omega, rfl⟩
set_option maxHeartbeats 4000000 in
set_option maxRecDepth 100000 in
theorem smallW_any (w : World) (h : Rdy w) : Calls Tryz.prog 5 #[] w fun e w' => e = .returned (.bool true) ∧ Below w.heap.size w w' := by
  have e0 : decW [61, 63, 117, 116, 102, 45, 56, 63, 81, 63, 97, 95, 61, 67, 51, 61, 65, 52, 63, 61, 32, 13, 10, 32, 61, 63, 117, 115, 45, 97, 115, 99, 105, 105, 63, 98, 63, 89, 103, 61, 61, 63, 61, 32, 99] = [97, 32, 195, 164, 98, 32, 99] := by decide +kernel
  have e1 : encW [97, 195, 164, 32, 98] = [61, 63, 117, 116, 102, 45, 56, 63, 81, 63, 97, 61, 67, 51, 61, 65, 52, 95, 98, 63, 61] := by decide +kernel
  have e2 : decW [61, 63, 117, 116, 102, 45, 56, 63, 88, 63, 97, 63, 61, 32, 61, 63, 117, 116, 102, 45, 56, 63, 81, 63, 97, 32, 98, 63, 61, 32, 61, 63, 63, 81, 63, 97, 63, 61, 32, 255] = [61, 63, 117, 116, 102, 45, 56, 63, 88, 63, 97, 63, 61, 32, 61, 63, 117, 116, 102, 45, 56, 63, 81, 63, 97, 32, 98, 63, 61, 32, 61, 63, 63, 81, 63, 97, 63, 61, 32, 239, 191, 189] := by decide +kernel
  have e3 : encW [195, 164, 195, 164, 195, 164, 195, 164, 195, 164, 195, 164, 195, 164, 195, 164, 195, 164, 195, 164, 195, 164] = [61, 63, 117, 116, 102, 45, 56, 63, 81, 63, 61, 67, 51, 61, 65, 52, 61, 67, 51, 61, 65, 52, 61, 67, 51, 61, 65, 52, 61, 67, 51, 61, 65, 52, 61, 67, 51, 61, 65, 52, 61, 67, 51, 61, 65, 52, 61, 67, 51, 61, 65, 52, 61, 67, 51, 61, 65, 52, 61, 67, 51, 61, 65, 52, 61, 67, 51, 61, 65, 52, 63, 61, 32, 61, 63, 117, 116, 102, 45, 56, 63, 81, 63, 61, 67, 51, 61, 65, 52, 63, 61] := by decide +kernel
  have e4 : decW [61, 63, 117, 116, 102, 45, 56, 63, 81, 63, 61, 67, 51, 61, 65, 52, 61, 67, 51, 61, 65, 52, 61, 67, 51, 61, 65, 52, 61, 67, 51, 61, 65, 52, 61, 67, 51, 61, 65, 52, 61, 67, 51, 61, 65, 52, 61, 67, 51, 61, 65, 52, 61, 67, 51, 61, 65, 52, 61, 67, 51, 61, 65, 52, 61, 67, 51, 61, 65, 52, 63, 61, 32, 61, 63, 117, 116, 102, 45, 56, 63, 81, 63, 61, 67, 51, 61, 65, 52, 63, 61] = [195, 164, 195, 164, 195, 164, 195, 164, 195, 164, 195, 164, 195, 164, 195, 164, 195, 164, 195, 164, 195, 164] := by decide +kernel
  have e5 : encW [97, 32, 126] = [97, 32, 126] := by decide +kernel
  have e6 : encW [61, 63] = [61, 63, 117, 116, 102, 45, 56, 63, 81, 63, 61, 51, 68, 61, 51, 70, 63, 61] := by decide +kernel
  have e7 : decW [61, 63, 108, 97, 116, 105, 110, 49, 63, 113, 63, 61, 69, 52, 63, 61, 61, 63, 108, 97, 116, 105, 110, 49, 63, 113, 63, 95, 63, 61] = [195, 164, 32] := by decide +kernel
  have e8 : encW [] = [] := by decide +kernel
  have H := Lib.hid h
  have tb := Below.refl w.heap.size w
  clear h
  go_enter Tryz.func5, Tryz.ntmps5
  go_wp2_with (first
            | (go_at_call 11; (with_reducible refine (decodeW_any _ _ (H.out.later tb) (by decide)).mono ?_); rintro e w1 ⟨rfl, hb1⟩; have tb := tb.trans (hb1.mono tb.size))
            | (go_at_call 6; (with_reducible refine (encodeW_any _ _ (H.out.later tb) (by decide)).mono ?_); rintro e w1 ⟨rfl, hb1⟩; have tb := tb.trans (hb1.mono tb.size)))
  go_ret
  exact ⟨rfl, tb⟩
end Go.Proofs.YtnclbbgdfaeilaaGreatDoor
