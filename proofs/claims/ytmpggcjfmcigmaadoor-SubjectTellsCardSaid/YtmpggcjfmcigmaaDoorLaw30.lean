/- Walks: chapter 30's laws: small, few. -/
import Derived.Test.YtmpggcjfmcigmaaDoorWorld30
namespace Go.Proofs.YtmpggcjfmcigmaaDoor
open Go.RowKit Pk U8 Su Fo

theorem base_rd (s : ByteArray) (w : World) (h : Ready w) (hs : s.size ≤ 3000000) :
    Calls Tryd.prog 9 #[.string s] w fun e w' => e = .returned (.string ⟨(Bs s.data.toList).toArray⟩) ∧ Below w.heap.size w w' := by
  obtain ⟨b, off, cap, h2⟩ := h.spans
  exact base_any s w h.tabs b off cap h2 hs
theorem again_rd (s : ByteArray) (w : World) (h : Ready w) (hs : s.size ≤ 3000000) :
    Calls Tryd.prog 11 #[.string s] w fun e w' => e = .returned (.bool (Ag s.data.toList)) ∧ Below w.heap.size w w' := again_any s w h.tabs hs
theorem few_any (s : ByteArray) (w : World) : Calls Tryd.prog 8 #[.string s] w fun e w' => e = .returned (.bool (decide (s.size ≤ 2000))) ∧ w = w' := by
  by_cases h : s.size ≤ 2000
  · rw [decide_eq_true h]
    go_enter Tryd.func8, Tryd.ntmps8
    go_wp2
    go_ret
    exact ⟨by simp; omega, rfl⟩
  · rw [decide_eq_false h]
    go_enter Tryd.func8, Tryd.ntmps8
    go_wp2
    go_ret
    exact ⟨by simp; omega, rfl⟩
set_option maxHeartbeats 4000000 in
set_option maxRecDepth 100000 in
theorem small_any (w : World) (h : Ready w) : Calls Tryd.prog 7 #[] w fun e w' => e = .returned (.bool true) ∧ Below w.heap.size w w' := by
  have e1 : Bs [82, 101, 58, 32, 91, 108, 105, 115, 116, 93, 32, 65, 87] = [97, 119] := by decide +kernel
  have e2 : Bs [32, 91, 120, 93, 32, 70, 119, 100, 58, 32, 91, 102, 119, 100, 58, 32, 114, 101, 32, 91, 51, 93, 58, 32, 72, 101, 108, 108, 111, 32, 93, 32, 40, 102, 119, 100, 41, 32] = [104, 101, 108, 108, 111] := by decide +kernel
  have e3 : Bs [91, 111, 110, 108, 121, 93] = [91, 111, 110, 108, 121, 93] := by decide +kernel
  have e4 : Ag [82, 69, 58, 120] = true := by decide +kernel
  have e5 : Ag [91, 108, 93, 32, 120, 32, 114, 101] = false := by decide +kernel
  have e6 : Bs [] = [] := by decide +kernel
  have H := Lib.hid h
  have tb := Below.refl w.heap.size w
  clear h
  go_enter Tryd.func7, Tryd.ntmps7
  go_wp2_with (first
            | (go_at_call 9; (with_reducible refine (base_rd _ _ (H.out.later tb) (by decide)).mono ?_); rintro e w1 ⟨rfl, hb1⟩; have tb := tb.trans (hb1.mono tb.size))
            | (go_at_call 11; (with_reducible refine (again_rd _ _ (H.out.later tb) (by decide)).mono ?_); rintro e w1 ⟨rfl, hb1⟩; have tb := tb.trans (hb1.mono tb.size)))
  go_ret
  exact ⟨rfl, tb⟩
end Go.Proofs.YtmpggcjfmcigmaaDoor
