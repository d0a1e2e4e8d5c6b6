/- Walks: the laws' small functions. -/
import Derived.Test.YtgkbjgmcgbnnaaaDoorCod6c
import Derived.Test.YtgkbjgmcgbnnaaaDoorCod6g
import Derived.Test.YtgkbjgmcgbnnaaaDoorPlain6
namespace Go.Proofs.YtgkbjgmcgbnnaaaDoor
open Go.RowKit Pk C6 Hx

theorem few_any (s : ByteArray) (w : World) : Calls Tryd.prog 9 #[.string s] w fun e w' => e = .returned (.bool (decide (s.size ≤ 10000))) ∧ w = w' := by
  go_enter Tryd.func9, Tryd.ntmps9
  go_wp2
  go_ret
  exact ⟨by simp; omega, rfl⟩
theorem str_of (l : List UInt8) (s : ByteArray) (h : l = s.data.toList) : (⟨l.toArray⟩ : ByteArray) = s := by subst h; simp
set_option maxHeartbeats 4000000 in
theorem small_any (w : World) (m : Int) (hm : w.cell? ⟨0, 0, none⟩ = some (.int .i64 m)) : Calls Tryd.prog 8 #[] w fun e w' => e = .returned (.bool true) ∧ Below w.heap.size w w' := by
  have e1 : b64R [97, 98] = [89, 87, 73, 61, 13, 10] := by decide +kernel
  have e2 : b64R [] = [] := by decide +kernel
  have e3 : unB64R [89, 32, 87, 63, 73, 61, 120] = [97, 98] := by decide +kernel
  have e4 : qpR 0 [97, 32, 61] = [97, 32, 61, 51, 68] := by decide +kernel
  have e5 : unQpR [97, 61, 51, 100, 32, 61, 13, 10, 98, 32, 10, 61] = [97, 61, 32, 98, 10] := by decide +kernel
  have e6 : qR [97, 32, 233] = [97, 95, 61, 69, 57] := by decide +kernel
  have e7 : unQR [97, 95, 61, 52, 49, 61, 52] = [97, 32, 65, 61, 52] := by decide +kernel
  have t0 := Below.refl w.heap.size w
  go_enter Tryd.func8, Tryd.ntmps8
  go_wp2_with (first
    | (go_at_call 10; refine (b64P_any _ _ (by decide)).mono ?_; rintro e w1 ⟨rfl, hb1⟩; first | (have t2 := t1.trans (hb1.mono z1); have z2 := t2.size; have m2 := cell_below hm t2 rfl) | (have t1 := t0.trans hb1; have z1 := t1.size))
    | (go_at_call 12; refine (unB64P_any _ _ m (by decide) m2).mono ?_; rintro e w3 ⟨rfl, hb3⟩; have t3 := t2.trans (hb3.mono z2); have z3 := t3.size; have m3 := cell_below hm t3 rfl)
    | (go_at_call 14; refine (qpP_any _ _ m (by decide) m3).mono ?_; rintro e w4 ⟨rfl, hb4⟩; have t4 := t3.trans (hb4.mono z3); have z4 := t4.size; have m4 := cell_below hm t4 rfl)
    | (go_at_call 16; refine (unQpP_any _ _ m (by decide) m4).mono ?_; rintro e w5 ⟨rfl, hb5⟩; have t5 := t4.trans (hb5.mono z4); have z5 := t5.size; have m5 := cell_below hm t5 rfl)
    | (go_at_call 18; refine (qP_any _ _ (by decide)).mono ?_; rintro e w6 ⟨rfl, hb6⟩; have t6 := t5.trans (hb6.mono z5); have z6 := t6.size; have m6 := cell_below hm t6 rfl)
    | (go_at_call 20; refine (unQP_any _ _ m (by decide) m6).mono ?_; rintro e w7 ⟨rfl, hb7⟩; have t7 := t6.trans (hb7.mono z6); have z7 := t7.size))
  go_ret
  exact ⟨rfl, t7⟩
end Go.Proofs.YtgkbjgmcgbnnaaaDoor
