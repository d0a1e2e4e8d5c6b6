/- Walk: the law CodecTells. -/
import Derived.Test.YtgkbjgmcgbnnaaaDoorRef6f
namespace Go.Proofs.YtgkbjgmcgbnnaaaDoor
open Go.RowKit Pk C6 Hx

set_option maxHeartbeats 4000000 in
theorem tells_any (s : ByteArray) (w : World) (m : Int) (hm : w.cell? ⟨0, 0, none⟩ = some (.int .i64 m)) : Calls Tryd.prog 3 #[.string s] w fun e w' => e = .returned (.bool true) ∧ Below w.heap.size w w' := by
  by_cases hs : s.size ≤ 10000
  · obtain ⟨X1, hX1⟩ : ∃ X : ByteArray, X = ⟨(b64R s.data.toList).toArray⟩ := ⟨_, rfl⟩
    have P1 : Hid (∀ w : World, w.cell? ⟨0, 0, none⟩ = some (.int .i64 m) → Calls Tryd.prog 10 #[.string s] w fun e w' => e = .returned (.string X1) ∧ Below w.heap.size w w') := fun w _ => by rw [hX1]; exact b64P_any s w (by omega)
    have R1 : Hid (∀ w : World, Calls Tryd.prog 11 #[.string s] w fun e w' => e = .returned (.string X1) ∧ Below w.heap.size w w') := fun w => by rw [hX1]; exact b64R_any s w (by omega)
    clear hX1
    obtain ⟨X2, hX2⟩ : ∃ X : ByteArray, X = ⟨(unB64R s.data.toList).toArray⟩ := ⟨_, rfl⟩
    have P2 : Hid (∀ w : World, w.cell? ⟨0, 0, none⟩ = some (.int .i64 m) → Calls Tryd.prog 12 #[.string s] w fun e w' => e = .returned (.string X2) ∧ Below w.heap.size w w') := fun w hm => by rw [hX2]; exact unB64P_any s w m (by omega) hm
    have R2 : Hid (∀ w : World, Calls Tryd.prog 13 #[.string s] w fun e w' => e = .returned (.string X2) ∧ Below w.heap.size w w') := fun w => by rw [hX2]; exact unB64R_any s w (by omega)
    clear hX2
    obtain ⟨X3, hX3⟩ : ∃ X : ByteArray, X = ⟨(qpR 0 s.data.toList).toArray⟩ := ⟨_, rfl⟩
    have P3 : Hid (∀ w : World, w.cell? ⟨0, 0, none⟩ = some (.int .i64 m) → Calls Tryd.prog 14 #[.string s] w fun e w' => e = .returned (.string X3) ∧ Below w.heap.size w w') := fun w hm => by rw [hX3]; exact qpP_any s w m (by omega) hm
    have R3 : Hid (∀ w : World, Calls Tryd.prog 15 #[.string s] w fun e w' => e = .returned (.string X3) ∧ Below w.heap.size w w') := fun w => by rw [hX3]; exact qpRef_any s w (by omega)
    clear hX3
    obtain ⟨X4, hX4⟩ : ∃ X : ByteArray, X = ⟨(unQpR s.data.toList).toArray⟩ := ⟨_, rfl⟩
    have P4 : Hid (∀ w : World, w.cell? ⟨0, 0, none⟩ = some (.int .i64 m) → Calls Tryd.prog 16 #[.string s] w fun e w' => e = .returned (.string X4) ∧ Below w.heap.size w w') := fun w hm => by rw [hX4]; exact unQpP_any s w m (by omega) hm
    have R4 : Hid (∀ w : World, Calls Tryd.prog 17 #[.string s] w fun e w' => e = .returned (.string X4) ∧ Below w.heap.size w w') := fun w => by rw [hX4]; exact unQpRef_any s w (by omega)
    clear hX4
    obtain ⟨X5, hX5⟩ : ∃ X : ByteArray, X = ⟨(qR s.data.toList).toArray⟩ := ⟨_, rfl⟩
    have P5 : Hid (∀ w : World, w.cell? ⟨0, 0, none⟩ = some (.int .i64 m) → Calls Tryd.prog 18 #[.string s] w fun e w' => e = .returned (.string X5) ∧ Below w.heap.size w w') := fun w _ => by rw [hX5]; exact qP_any s w (by omega)
    have R5 : Hid (∀ w : World, Calls Tryd.prog 19 #[.string s] w fun e w' => e = .returned (.string X5) ∧ Below w.heap.size w w') := fun w => by rw [hX5]; exact qR_any s w (by omega)
    clear hX5
    obtain ⟨X6, hX6⟩ : ∃ X : ByteArray, X = ⟨(unQR s.data.toList).toArray⟩ := ⟨_, rfl⟩
    have P6 : Hid (∀ w : World, w.cell? ⟨0, 0, none⟩ = some (.int .i64 m) → Calls Tryd.prog 20 #[.string s] w fun e w' => e = .returned (.string X6) ∧ Below w.heap.size w w') := fun w hm => by rw [hX6]; exact unQP_any s w m (by omega) hm
    have R6 : Hid (∀ w : World, Calls Tryd.prog 21 #[.string s] w fun e w' => e = .returned (.string X6) ∧ Below w.heap.size w w') := fun w => by rw [hX6]; exact unQR_any s w (by omega)
    clear hX6
    go_enter Tryd.func3, Tryd.ntmps3
    go_wp2_with (first
      | (go_at_call 8; refine (small_any _ m hm).mono ?_; rintro e w1 ⟨rfl, hb1⟩; have z1 := hb1.size; have t1 := hb1; have m1 := cell_below hm t1 rfl)
      | (go_at_call 9; refine (few_any _ _).mono ?_; rintro e w' ⟨rfl, rfl⟩)
      | (go_at_call 10; refine (P1.out _ m1).mono ?_; rintro e w2 ⟨rfl, hb2⟩; have t2 := t1.trans (hb2.mono z1); have z2 := t2.size; have m2 := cell_below hm t2 rfl)
      | (go_at_call 11; refine (R1.out _).mono ?_; rintro e w3 ⟨rfl, hb3⟩; have t3 := t2.trans (hb3.mono z2); have z3 := t3.size; have m3 := cell_below hm t3 rfl)
      | (go_at_call 12; refine (P2.out _ m3).mono ?_; rintro e w4 ⟨rfl, hb4⟩; have t4 := t3.trans (hb4.mono z3); have z4 := t4.size; have m4 := cell_below hm t4 rfl)
      | (go_at_call 13; refine (R2.out _).mono ?_; rintro e w5 ⟨rfl, hb5⟩; have t5 := t4.trans (hb5.mono z4); have z5 := t5.size; have m5 := cell_below hm t5 rfl)
      | (go_at_call 14; refine (P3.out _ m5).mono ?_; rintro e w6 ⟨rfl, hb6⟩; have t6 := t5.trans (hb6.mono z5); have z6 := t6.size; have m6 := cell_below hm t6 rfl)
      | (go_at_call 15; refine (R3.out _).mono ?_; rintro e w7 ⟨rfl, hb7⟩; have t7 := t6.trans (hb7.mono z6); have z7 := t7.size; have m7 := cell_below hm t7 rfl)
      | (go_at_call 16; refine (P4.out _ m7).mono ?_; rintro e w8 ⟨rfl, hb8⟩; have t8 := t7.trans (hb8.mono z7); have z8 := t8.size; have m8 := cell_below hm t8 rfl)
      | (go_at_call 17; refine (R4.out _).mono ?_; rintro e w9 ⟨rfl, hb9⟩; have t9 := t8.trans (hb9.mono z8); have z9 := t9.size; have m9 := cell_below hm t9 rfl)
      | (go_at_call 18; refine (P5.out _ m9).mono ?_; rintro e w10 ⟨rfl, hb10⟩; have t10 := t9.trans (hb10.mono z9); have z10 := t10.size; have m10 := cell_below hm t10 rfl)
      | (go_at_call 19; refine (R5.out _).mono ?_; rintro e w11 ⟨rfl, hb11⟩; have t11 := t10.trans (hb11.mono z10); have z11 := t11.size; have m11 := cell_below hm t11 rfl)
      | (go_at_call 20; refine (P6.out _ m11).mono ?_; rintro e w12 ⟨rfl, hb12⟩; have t12 := t11.trans (hb12.mono z11); have z12 := t12.size; have m12 := cell_below hm t12 rfl)
      | (go_at_call 21; refine (R6.out _).mono ?_; rintro e w13 ⟨rfl, hb13⟩; have t13 := t12.trans (hb13.mono z12); have z13 := t13.size; have m13 := cell_below hm t13 rfl))
    go_ret
    exact ⟨rfl, t13⟩
  · go_enter Tryd.func3, Tryd.ntmps3
    go_wp2_with (first
      | (go_at_call 8; refine (small_any _ m hm).mono ?_; rintro e w1 ⟨rfl, hb1⟩; have z1 := hb1.size)
      | (go_at_call 9; refine (few_any _ _).mono ?_; rintro e w' ⟨rfl, rfl⟩))
    go_ret
    exact ⟨rfl, hb1⟩
end Go.Proofs.YtgkbjgmcgbnnaaaDoor
