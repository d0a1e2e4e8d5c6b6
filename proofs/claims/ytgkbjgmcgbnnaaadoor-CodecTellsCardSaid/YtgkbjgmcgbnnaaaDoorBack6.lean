/- Walk: the law CodecBack. -/
import Derived.Test.YtgkbjgmcgbnnaaaDoorLaw6
import Derived.Test.YtgkbjgmcgbnnaaaDoorPlain6b
namespace Go.Proofs.YtgkbjgmcgbnnaaaDoor
open Go.RowKit Pk C6 Hx

theorem arr_size (l : List UInt8) : (⟨l.toArray⟩ : ByteArray).size = l.length := by simp [ByteArray.size]
set_option maxHeartbeats 2000000 in
theorem back_any (s : ByteArray) (w : World) (m : Int) (hm : w.cell? ⟨0, 0, none⟩ = some (.int .i64 m)) : Calls Tryd.prog 4 #[.string s] w fun e w' => e = .returned (.bool true) ∧ Below w.heap.size w w' := by
  have t0 := Below.refl w.heap.size w
  by_cases hs : s.size ≤ 10000
  · have hl : s.data.toList.length = s.size := rfl
    have l1 : (b64R s.data.toList).length ≤ 200000 := by
      have := brk_length (sgR s.data.toList) 0
      have := sgR_length_le s.data.toList
      unfold b64R; omega
    have l2 : (qpR 0 s.data.toList).length ≤ 200000 := by have := qpR_length 0 s.data.toList; omega
    have l3 : (qR s.data.toList).length ≤ 200000 := by have := qR_length s.data.toList; omega
    have u1 := fun w => unB64P_any ⟨(b64R s.data.toList).toArray⟩ w m (by rw [arr_size]; omega)
    have u2 := fun w => unQpP_any ⟨(qpR 0 s.data.toList).toArray⟩ w m (by rw [arr_size]; omega)
    have u3 := fun w => unQP_any ⟨(qR s.data.toList).toArray⟩ w m (by rw [arr_size]; omega)
    rw [show (⟨(b64R s.data.toList).toArray⟩ : ByteArray).data.toList = b64R s.data.toList by simp, unB64_b64, str_of _ s rfl] at u1
    rw [show (⟨(qpR 0 s.data.toList).toArray⟩ : ByteArray).data.toList = qpR 0 s.data.toList by simp, unQp_qp, str_of _ s rfl] at u2
    rw [show (⟨(qR s.data.toList).toArray⟩ : ByteArray).data.toList = qR s.data.toList by simp, unQ_q, str_of _ s rfl] at u3
    have U1 := Lib.hid u1
    have U2 := Lib.hid u2
    have U3 := Lib.hid u3
    have P1 := Lib.hid (fun w => b64P_any s w (by omega))
    have P2 := Lib.hid (fun w => qpP_any s w m (by omega))
    have P3 := Lib.hid (fun w => qP_any s w (by omega))
    clear u1 u2 u3 l1 l2 l3
    go_enter Tryd.func4, Tryd.ntmps4
    go_wp2_with (first
      | (go_at_call 8; refine (small_any _ m hm).mono ?_; rintro e w1 ⟨rfl, hb1⟩; have z1 := hb1.size)
      | (go_at_call 9; refine (few_any _ _).mono ?_; rintro e w' ⟨rfl, rfl⟩)
      | (go_at_call 10; refine (P1.out _).mono ?_; rintro e w2 ⟨rfl, hb2⟩; have t2 := hb1.trans (hb2.mono z1); have z2 := t2.size; have m2 := cell_below hm t2 rfl)
      | (go_at_call 12; refine (U1.out _ m2).mono ?_; rintro e w3 ⟨rfl, hb3⟩; have t3 := t2.trans (hb3.mono z2); have z3 := t3.size; have m3 := cell_below hm t3 rfl)
      | (go_at_call 14; refine (P2.out _ m3).mono ?_; rintro e w4 ⟨rfl, hb4⟩; have t4 := t3.trans (hb4.mono z3); have z4 := t4.size; have m4 := cell_below hm t4 rfl)
      | (go_at_call 16; refine (U2.out _ m4).mono ?_; rintro e w5 ⟨rfl, hb5⟩; have t5 := t4.trans (hb5.mono z4); have z5 := t5.size; have m5 := cell_below hm t5 rfl)
      | (go_at_call 18; refine (P3.out _).mono ?_; rintro e w6 ⟨rfl, hb6⟩; have t6 := t5.trans (hb6.mono z5); have z6 := t6.size; have m6 := cell_below hm t6 rfl)
      | (go_at_call 20; refine (U3.out _ m6).mono ?_; rintro e w7 ⟨rfl, hb7⟩; have t7 := t6.trans (hb7.mono z6); have z7 := t7.size))
    go_ret
    exact ⟨rfl, t7⟩
  · go_enter Tryd.func4, Tryd.ntmps4
    go_wp2_with (first
      | (go_at_call 8; refine (small_any _ m hm).mono ?_; rintro e w1 ⟨rfl, hb1⟩; have z1 := hb1.size)
      | (go_at_call 9; refine (few_any _ _).mono ?_; rintro e w' ⟨rfl, rfl⟩))
    go_ret
    exact ⟨rfl, hb1⟩
end Go.Proofs.YtgkbjgmcgbnnaaaDoor
