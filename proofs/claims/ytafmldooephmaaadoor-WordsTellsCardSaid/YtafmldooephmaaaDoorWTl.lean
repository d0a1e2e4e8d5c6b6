/- Walks: the law WordsTells. -/
import Derived.Test.YtafmldooephmaaaDoorLaw13
import Derived.Test.YtafmldooephmaaaDoorR13c
import Derived.Test.YtafmldooephmaaaDoorR13d
namespace Go.Proofs.YtafmldooephmaaaDoor
open Go.RowKit Pk U8 Cs Wd

set_option maxHeartbeats 4000000 in
set_option maxRecDepth 100000 in
theorem tellsLaw_any (s : ByteArray) (w : World) (h : Rdy w) :
    Calls Tryd.prog 3 #[.string s] w fun e w' => e = .returned (.bool true) ∧ Below w.heap.size w w' := by
  have H := Lib.hid h
  have tb := Below.refl w.heap.size w
  clear h
  by_cases hs : s.size ≤ 300
  · have hfa := fun w => fewW_any s w
    rw [decide_eq_true hs] at hfa
    have HFA := Lib.hid hfa
    obtain ⟨D, hD, -, -⟩ := arr_ex (decW s.data.toList)
    obtain ⟨E, hE, -, -⟩ := arr_ex (encW s.data.toList)
    have h1 := fun w' (tb : Below w.heap.size w w') => decodeW_any s w' (H.out.later tb) (by omega)
    have h2 := fun w' (tb : Below w.heap.size w w') => encodeW_any s w' (H.out.later tb) (by omega)
    have h3 := fun w' => decodeR13_any s w' (by omega)
    have h4 := fun w' => encodeR13_any s w' (by omega)
    rw [← hD] at h1 h3
    rw [← hE] at h2 h4
    have H1 := Lib.hid h1
    have H2 := Lib.hid h2
    have H3 := Lib.hid h3
    have H4 := Lib.hid h4
    clear hfa hD hE h1 h2 h3 h4
    go_enter Tryd.func3, Tryd.ntmps3
    go_wp2_with (first
            | (go_at_call 7; (with_reducible refine (smallW_any _ (H.out.later tb)).mono ?_); rintro e w1 ⟨rfl, hb1⟩; have tb := tb.trans (hb1.mono tb.size))
            | (go_at_call 8; (with_reducible refine (HFA.out _).mono ?_); rintro e w1 ⟨rfl, rfl⟩)
            | (go_at_call 9; (with_reducible refine (H1.out _ tb).mono ?_); rintro e w1 ⟨rfl, hb1⟩; have tb := tb.trans (hb1.mono tb.size))
            | (go_at_call 11; (with_reducible refine (H2.out _ tb).mono ?_); rintro e w1 ⟨rfl, hb1⟩; have tb := tb.trans (hb1.mono tb.size))
            | (go_at_call 10; (with_reducible refine (H3.out _).mono ?_); rintro e w1 ⟨rfl, hb1⟩; have tb := tb.trans (hb1.mono tb.size))
            | (go_at_call 12; (with_reducible refine (H4.out _).mono ?_); rintro e w1 ⟨rfl, hb1⟩; have tb := tb.trans (hb1.mono tb.size)))
    go_ret
    exact ⟨rfl, tb⟩
  · have hfa := fun w => fewW_any s w
    rw [decide_eq_false hs] at hfa
    have HFA := Lib.hid hfa
    clear hfa
    go_enter Tryd.func3, Tryd.ntmps3
    go_wp2_with (first
            | (go_at_call 7; (with_reducible refine (smallW_any _ (H.out.later tb)).mono ?_); rintro e w1 ⟨rfl, hb1⟩; have tb := tb.trans (hb1.mono tb.size))
            | (go_at_call 8; (with_reducible refine (HFA.out _).mono ?_); rintro e w1 ⟨rfl, rfl⟩))
    go_ret
    exact ⟨rfl, tb⟩
end Go.Proofs.YtafmldooephmaaaDoor
