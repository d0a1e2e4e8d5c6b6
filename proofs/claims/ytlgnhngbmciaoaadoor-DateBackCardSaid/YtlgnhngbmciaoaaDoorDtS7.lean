/- Walks: chapter 07's laws: the fixed examples. -/
import Derived.Test.YtlgnhngbmciaoaaDoorDtC2
import Derived.Test.YtlgnhngbmciaoaaDoorDtB2
namespace Go.Proofs.YtlgnhngbmciaoaaDoor
open Go.RowKit Pk Dt

def Truth7 (w : World) (e : Ending) (w' : World) : Prop := e = .returned (.bool true) ∧ Below w.heap.size w w'
theorem laterA {w : World} {g j : Nat} {v : Value} (o : Obj) (h : w.cell? ⟨g, j, none⟩ = some v) : (w.alloc o).cell? ⟨g, j, none⟩ = some v := laterC ((Below.refl _ _).alloc (Nat.le_refl _) o) h
theorem read_lit (s : ByteArray) (r : Option (Int × Int)) (v : Value) (w : World) (h : Rd7 w) (hs : s.size ≤ 1000) (hr : readL s.data.toList = r) (hv : v = match r with
    | none => .tuple #[.agg #[.int .i64 0, .int .i64 0], .bool false]
    | some p => .tuple #[.agg #[.int .i64 p.1, .int .i64 p.2], .bool true]) : Calls Tryd.prog 9 #[.string s] w fun e w' => e = .returned v ∧ Below w.heap.size w w' := by
  refine (read_any s w h (by omega)).mono fun e w' hh => ?_
  unfold ReadIs at hh
  rw [hr] at hh
  obtain ⟨h1, h2⟩ := hh
  refine ⟨?_, h2⟩
  rw [hv]
  cases r with
  | none => exact h1
  | some p => exact h1
theorem write_lit (u z : Int) (r : List UInt8) (A : Array UInt8) (w : World) (h : Rd7 w) (hr : writeL u z = r) (hA : A = r.toArray) : Calls Tryd.prog 8 #[.agg #[.int .i64 u, .int .i64 z]] w fun e w' => e = .returned (.string ⟨A⟩) ∧ Below w.heap.size w w' := by
  have := write_any u z w h
  rw [hr, ← hA] at this
  exact this
theorem int_lit {f : Nat} {args : Array Value} {x y : Int} {w : World} (h : Calls Tryd.prog f args w fun e w' => e = .returned (.int .i64 x) ∧ Below w.heap.size w w') (e : x = y) : Calls Tryd.prog f args w fun e w' => e = .returned (.int .i64 y) ∧ Below w.heap.size w w' := by
  rw [← e]; exact h
theorem rd1 : readL ((⟨#[84, 104, 117, 44, 32, 49, 32, 74, 97, 110, 32, 49, 57, 55, 48, 32, 48, 49, 58, 48, 48, 58, 51, 48, 32, 43, 48, 49, 48, 48]⟩ : ByteArray)).data.toList = some (30, 60) := by decide +kernel
theorem rd2 : readL ((⟨#[32, 50, 57, 32, 40, 97, 40, 98, 41, 92, 41, 99, 41, 32, 102, 101, 98, 32, 48, 48, 32, 50, 51, 58, 53, 57, 58, 54, 48, 32, 80, 83, 84, 32, 40, 120]⟩ : ByteArray)).data.toList = some (951897599, (-480)) := by decide +kernel
theorem rd3 : readL ((⟨#[51, 48, 32, 70, 101, 98, 32, 50, 48, 50, 52, 32, 48, 48, 58, 48, 48, 58, 48, 48, 32, 43, 48, 48, 48, 48]⟩ : ByteArray)).data.toList = none := by decide +kernel
theorem rd4 : readL ((⟨#[49, 32, 74, 97, 110, 32, 49, 57, 55, 48]⟩ : ByteArray)).data.toList = none := by decide +kernel
theorem rd5 : readL ((⟨#[49, 32, 74, 97, 110, 32, 49, 57, 55, 48, 32, 48, 48, 58, 48, 48, 32, 90, 32, 90]⟩ : ByteArray)).data.toList = none := by decide +kernel
theorem rd6 : readL ((⟨#[48, 49, 32, 74, 97, 110, 32, 57, 57, 32, 48, 48, 58, 48, 48, 32, 88, 89, 90]⟩ : ByteArray)).data.toList = some (915148800, 0) := by decide +kernel
theorem wr1 : writeL 30 60 = [84, 104, 117, 44, 32, 48, 49, 32, 74, 97, 110, 32, 49, 57, 55, 48, 32, 48, 49, 58, 48, 48, 58, 51, 48, 32, 43, 48, 49, 48, 48] := by decide +kernel
theorem wr2 : writeL 951897599 (-480) = [84, 117, 101, 44, 32, 50, 57, 32, 70, 101, 98, 32, 50, 48, 48, 48, 32, 50, 51, 58, 53, 57, 58, 53, 57, 32, 45, 48, 56, 48, 48] := by decide +kernel
theorem wr3 : writeL 0 1440 = [] := by decide +kernel
set_option maxHeartbeats 8000000 in
set_option maxRecDepth 100000 in
theorem small7_any (w : World) (h : Rd7 w) : Calls Tryd.prog 7 #[] w (Truth7 w) := by
  have hR1 := fun w h => read_lit ⟨#[84, 104, 117, 44, 32, 49, 32, 74, 97, 110, 32, 49, 57, 55, 48, 32, 48, 49, 58, 48, 48, 58, 51, 48, 32, 43, 48, 49, 48, 48]⟩ _ (.tuple #[.agg #[.int .i64 30, .int .i64 60], .bool true]) w h (by decide) rd1 rfl
  have hR2 := fun w h => read_lit ⟨#[32, 50, 57, 32, 40, 97, 40, 98, 41, 92, 41, 99, 41, 32, 102, 101, 98, 32, 48, 48, 32, 50, 51, 58, 53, 57, 58, 54, 48, 32, 80, 83, 84, 32, 40, 120]⟩ _ (.tuple #[.agg #[.int .i64 951897599, .int .i64 (-480)], .bool true]) w h (by decide) rd2 rfl
  have hR3 := fun w h => read_lit ⟨#[51, 48, 32, 70, 101, 98, 32, 50, 48, 50, 52, 32, 48, 48, 58, 48, 48, 58, 48, 48, 32, 43, 48, 48, 48, 48]⟩ _ (.tuple #[.agg #[.int .i64 0, .int .i64 0], .bool false]) w h (by decide) rd3 rfl
  have hR4 := fun w h => read_lit ⟨#[49, 32, 74, 97, 110, 32, 49, 57, 55, 48]⟩ _ (.tuple #[.agg #[.int .i64 0, .int .i64 0], .bool false]) w h (by decide) rd4 rfl
  have hR5 := fun w h => read_lit ⟨#[49, 32, 74, 97, 110, 32, 49, 57, 55, 48, 32, 48, 48, 58, 48, 48, 32, 90, 32, 90]⟩ _ (.tuple #[.agg #[.int .i64 0, .int .i64 0], .bool false]) w h (by decide) rd5 rfl
  have hR6 := fun w h => read_lit ⟨#[48, 49, 32, 74, 97, 110, 32, 57, 57, 32, 48, 48, 58, 48, 48, 32, 88, 89, 90]⟩ _ (.tuple #[.agg #[.int .i64 915148800, .int .i64 0], .bool true]) w h (by decide) rd6 rfl
  have hW1 := fun w h => write_lit 30 60 _ #[84, 104, 117, 44, 32, 48, 49, 32, 74, 97, 110, 32, 49, 57, 55, 48, 32, 48, 49, 58, 48, 48, 58, 51, 48, 32, 43, 48, 49, 48, 48] w h wr1 rfl
  have hW2 := fun w h => write_lit 951897599 (-480) _ #[84, 117, 101, 44, 32, 50, 57, 32, 70, 101, 98, 32, 50, 48, 48, 48, 32, 50, 51, 58, 53, 57, 58, 53, 57, 32, 45, 48, 56, 48, 48] w h wr2 rfl
  have hW3 := fun w h => write_lit 0 1440 _ #[] w h wr3 rfl
  have hV : ∀ w, Calls Tryd.prog 12 #[.int .i64 11016] w fun e w' => e = .returned (.tuple #[.int .i64 2000, .int .i64 2, .int .i64 29]) ∧ Below w.heap.size w w' := fun w => by
    have := civil_any 11016 w
    rw [show civL 11016 = ⟨2000, 2, 29⟩ by decide +kernel] at this
    exact this
  have hD1 := fun w => int_lit (days_any 2000 2 29 w) (show daysL 2000 2 29 = 11016 by decide +kernel)
  have hD2 := fun w => int_lit (days_any 1900 2 29 w) (show daysL 1900 2 29 = 0 by decide +kernel)
  have hK1 := fun w => int_lit (week_any 0 w (by decide) (by decide)) (show wkL 0 = 4 by decide +kernel)
  have hK2 := fun w => int_lit (week_any (-1) w (by decide) (by decide)) (show wkL (-1) = 3 by decide +kernel)
  have hP1 := fun w => int_lit (part4_any 951897599 (-480) w) (show partL 951897599 (-480) 4 = 23 by decide +kernel)
  have hP2 := fun w => int_lit (part8_any 951897599 (-480) w) (show partL 951897599 (-480) 8 = -480 by decide +kernel)
  have hP3 := fun w => int_lit (part9_any 951897599 (-480) w) (show partL 951897599 (-480) 9 = 0 by decide +kernel)
  have HR1 := Lib.hid hR1
  have HR2 := Lib.hid hR2
  have HR3 := Lib.hid hR3
  have HR4 := Lib.hid hR4
  have HR5 := Lib.hid hR5
  have HR6 := Lib.hid hR6
  have HW1 := Lib.hid hW1
  have HW2 := Lib.hid hW2
  have HW3 := Lib.hid hW3
  have HV := Lib.hid hV
  have HD1 := Lib.hid hD1
  have HD2 := Lib.hid hD2
  have HK1 := Lib.hid hK1
  have HK2 := Lib.hid hK2
  have HP1 := Lib.hid hP1
  have HP2 := Lib.hid hP2
  have HP3 := Lib.hid hP3
  have HRD := Lib.hid h
  have tb := Below.refl w.heap.size w
  clear h hR1 hR2 hR3 hR4 hR5 hR6 hW1 hW2 hW3 hV hD1 hD2 hK1 hK2 hP1 hP2 hP3
  go_enter Tryd.func7, Tryd.ntmps7
  go_wp2_with (first
    | (go_at_call 9; (with_reducible refine (HR1.out _ (HRD.out.late (by first | exact tb | exact tb.alloc tb.size _))).mono ?_); rintro e w1 ⟨rfl, hb1⟩; have tb := tb.trans (hb1.mono tb.size))
    | (go_at_call 9; (with_reducible refine (HR2.out _ (HRD.out.late (by first | exact tb | exact tb.alloc tb.size _))).mono ?_); rintro e w2 ⟨rfl, hb2⟩; have tb := tb.alloc tb.size (.cells #[.int .i64 30, .int .i64 60] 23); have tb := tb.trans (hb2.mono tb.size); have a0 : w2.cell? ⟨w1.heap.size, 0, none⟩ = some (.int .i64 30) := laterC hb2 (by simp); have a1 : w2.cell? ⟨w1.heap.size, 1, none⟩ = some (.int .i64 60) := laterC hb2 (by simp))
    | (go_at_call 9; (with_reducible refine (HR3.out _ (HRD.out.late (by first | exact tb | exact tb.alloc tb.size _))).mono ?_); rintro e w3 ⟨rfl, hb3⟩; have tb := tb.alloc tb.size (.cells #[.int .i64 951897599, .int .i64 (-480)] 23); have tb := tb.trans (hb3.mono tb.size); have a0 := laterC hb3 (laterA _ a0); have a1 := laterC hb3 (laterA _ a1); have b0 : w3.cell? ⟨w2.heap.size, 0, none⟩ = some (.int .i64 951897599) := laterC hb3 (by simp); have b1 : w3.cell? ⟨w2.heap.size, 1, none⟩ = some (.int .i64 (-480)) := laterC hb3 (by simp))
    | (go_at_call 9; (with_reducible refine (HR4.out _ (HRD.out.late (by first | exact tb | exact tb.alloc tb.size _))).mono ?_); rintro e w4 ⟨rfl, hb4⟩; have tb := tb.alloc tb.size (.cells #[.int .i64 0, .int .i64 0] 23); have tb := tb.trans (hb4.mono tb.size); have a0 := laterC hb4 (laterA _ a0); have a1 := laterC hb4 (laterA _ a1); have b0 := laterC hb4 (laterA _ b0); have b1 := laterC hb4 (laterA _ b1))
    | (go_at_call 9; (with_reducible refine (HR5.out _ (HRD.out.late (by first | exact tb | exact tb.alloc tb.size _))).mono ?_); rintro e w5 ⟨rfl, hb5⟩; have tb := tb.alloc tb.size (.cells #[.int .i64 0, .int .i64 0] 23); have tb := tb.trans (hb5.mono tb.size); have a0 := laterC hb5 (laterA _ a0); have a1 := laterC hb5 (laterA _ a1); have b0 := laterC hb5 (laterA _ b0); have b1 := laterC hb5 (laterA _ b1))
    | (go_at_call 9; (with_reducible refine (HR6.out _ (HRD.out.late (by first | exact tb | exact tb.alloc tb.size _))).mono ?_); rintro e w6 ⟨rfl, hb6⟩; have tb := tb.alloc tb.size (.cells #[.int .i64 0, .int .i64 0] 23); have tb := tb.trans (hb6.mono tb.size); have a0 := laterC hb6 (laterA _ a0); have a1 := laterC hb6 (laterA _ a1); have b0 := laterC hb6 (laterA _ b0); have b1 := laterC hb6 (laterA _ b1))
    | (go_at_call 12; (with_reducible refine (HV.out _).mono ?_); rintro e w7 ⟨rfl, hb7⟩; have tb := tb.alloc tb.size (.cells #[.int .i64 915148800, .int .i64 0] 23); have tb := tb.trans (hb7.mono tb.size); have a0 := laterC hb7 (laterA _ a0); have a1 := laterC hb7 (laterA _ a1); have b0 := laterC hb7 (laterA _ b0); have b1 := laterC hb7 (laterA _ b1); have c0 : w7.cell? ⟨w6.heap.size, 0, none⟩ = some (.int .i64 915148800) := laterC hb7 (by simp); have c1 : w7.cell? ⟨w6.heap.size, 1, none⟩ = some (.int .i64 0) := laterC hb7 (by simp))
    | (go_at_call 13; (with_reducible refine (HD1.out _).mono ?_); rintro e w8 ⟨rfl, hb8⟩; have tb := tb.trans (hb8.mono tb.size); have a0 := laterC hb8 a0; have a1 := laterC hb8 a1; have b0 := laterC hb8 b0; have b1 := laterC hb8 b1; have c0 := laterC hb8 c0; have c1 := laterC hb8 c1)
    | (go_at_call 13; (with_reducible refine (HD2.out _).mono ?_); rintro e w9 ⟨rfl, hb9⟩; have tb := tb.trans (hb9.mono tb.size); have a0 := laterC hb9 a0; have a1 := laterC hb9 a1; have b0 := laterC hb9 b0; have b1 := laterC hb9 b1; have c0 := laterC hb9 c0; have c1 := laterC hb9 c1)
    | (go_at_call 14; (with_reducible refine (HK1.out _).mono ?_); rintro e w10 ⟨rfl, hb10⟩; have tb := tb.trans (hb10.mono tb.size); have a0 := laterC hb10 a0; have a1 := laterC hb10 a1; have b0 := laterC hb10 b0; have b1 := laterC hb10 b1; have c0 := laterC hb10 c0; have c1 := laterC hb10 c1)
    | (go_at_call 14; (with_reducible refine (HK2.out _).mono ?_); rintro e w11 ⟨rfl, hb11⟩; have tb := tb.trans (hb11.mono tb.size); have a0 := laterC hb11 a0; have a1 := laterC hb11 a1; have b0 := laterC hb11 b0; have b1 := laterC hb11 b1; have c0 := laterC hb11 c0; have c1 := laterC hb11 c1)
    | (go_at_call 8; (with_reducible refine (HW1.out _ (HRD.out.late (by first | exact tb | exact tb.alloc tb.size _))).mono ?_); rintro e w12 ⟨rfl, hb12⟩; have tb := tb.trans (hb12.mono tb.size); have a0 := laterC hb12 a0; have a1 := laterC hb12 a1; have b0 := laterC hb12 b0; have b1 := laterC hb12 b1; have c0 := laterC hb12 c0; have c1 := laterC hb12 c1)
    | (go_at_call 8; (with_reducible refine (HW2.out _ (HRD.out.late (by first | exact tb | exact tb.alloc tb.size _))).mono ?_); rintro e w13 ⟨rfl, hb13⟩; have tb := tb.trans (hb13.mono tb.size); have a0 := laterC hb13 a0; have a1 := laterC hb13 a1; have b0 := laterC hb13 b0; have b1 := laterC hb13 b1; have c0 := laterC hb13 c0; have c1 := laterC hb13 c1)
    | (go_at_call 11; (with_reducible refine (HP1.out _).mono ?_); rintro e w14 ⟨rfl, hb14⟩; have tb := tb.trans (hb14.mono tb.size); have a0 := laterC hb14 a0; have a1 := laterC hb14 a1; have b0 := laterC hb14 b0; have b1 := laterC hb14 b1; have c0 := laterC hb14 c0; have c1 := laterC hb14 c1)
    | (go_at_call 11; (with_reducible refine (HP2.out _).mono ?_); rintro e w15 ⟨rfl, hb15⟩; have tb := tb.trans (hb15.mono tb.size); have a0 := laterC hb15 a0; have a1 := laterC hb15 a1; have b0 := laterC hb15 b0; have b1 := laterC hb15 b1; have c0 := laterC hb15 c0; have c1 := laterC hb15 c1)
    | (go_at_call 11; (with_reducible refine (HP3.out _).mono ?_); rintro e w16 ⟨rfl, hb16⟩; have tb := tb.trans (hb16.mono tb.size); have a0 := laterC hb16 a0; have a1 := laterC hb16 a1; have b0 := laterC hb16 b0; have b1 := laterC hb16 b1; have c0 := laterC hb16 c0; have c1 := laterC hb16 c1)
    | (go_at_call 8; (with_reducible refine (HW3.out _ (HRD.out.late (by first | exact tb | exact tb.alloc tb.size _))).mono ?_); rintro e w17 ⟨rfl, hb17⟩; have tb := tb.trans (hb17.mono tb.size); have a0 := laterC hb17 a0; have a1 := laterC hb17 a1; have b0 := laterC hb17 b0; have b1 := laterC hb17 b1; have c0 := laterC hb17 c0; have c1 := laterC hb17 c1))
  go_ret
  exact ⟨rfl, tb⟩
end Go.Proofs.YtlgnhngbmciaoaaDoor
