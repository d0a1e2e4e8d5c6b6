/- Walks: the reference of layer 22: the replies; the session in memory; New, Greeting, Over, anew, Answer, bare. Walks: the reference of layer 22: the options of MAIL. -/
import Derived.Test.YtjoipgekmnnlpaaGreatDoorTlB
import Derived.Test.YtjoipgekmnnlpaaGreatDoorTlS
namespace Go.Proofs.YtjoipgekmnnlpaaGreatDoor
open Go.RowKit Go.Shelf Go.Lib Pk Hx C1 Sm

set_option maxHeartbeats 1000000 in
set_option maxRecDepth 100000 in
theorem rrep220 (w : World) : Calls Tryz.prog 34 #[.int .i64 220] w fun e w' => e = .returned (.string (bt (repW 220))) ∧ Below w.heap.size w w' := by
  have hX := textR_any 1000 220 w (by decide) (by decide) (by decide)
  have hd : Lib.itoa (220 : Int) = dig3 220 := itoa_dig 220 (by decide) (by decide)
  rw [hd, show (⟨(dig3 220).toArray⟩ : ByteArray) = bt (dig3 220) from rfl] at hX
  have hE : bt (repW 220) = bt (dig3 220) ++ ⟨#[32]⟩ ++ bt (saidW 220) ++ ⟨#[13, 10]⟩ := by
    show bt _ = bt (dig3 220) ++ bt [32] ++ bt (saidW 220) ++ bt [13, 10]
    rw [bt_app, bt_app, bt_app]
    unfold repW
    simp
  have hz : (bt (dig3 220)).size ≤ 1000 := by rw [show (bt (dig3 220)).size = 3 from rfl]; omega
  generalize bt (dig3 220) = D at *
  have HX := Lib.hid hX
  have HE := Lib.hid hE
  have t1 : ¬ 9223372036854775807 < D.size + 1 := by omega
  have t2 : ¬ 9223372036854775807 < D.size + 1 + 11 := by omega
  have t3 : ¬ 9223372036854775807 < D.size + 1 + 11 + 2 := by omega
  clear hX hE hd
  go_enter Tryz.func34, Tryz.ntmps34
  go_wp2_with fail
  refine HX.out.mono ?_
  rintro e w1 ⟨rfl, hb1⟩
  go_wp2
  go_ret
  exact ⟨by rw [HE.out]; rfl, hb1⟩
set_option maxHeartbeats 1000000 in
set_option maxRecDepth 100000 in
theorem rrep221 (w : World) : Calls Tryz.prog 34 #[.int .i64 221] w fun e w' => e = .returned (.string (bt (repW 221))) ∧ Below w.heap.size w w' := by
  have hX := textR_any 1000 221 w (by decide) (by decide) (by decide)
  have hd : Lib.itoa (221 : Int) = dig3 221 := itoa_dig 221 (by decide) (by decide)
  rw [hd, show (⟨(dig3 221).toArray⟩ : ByteArray) = bt (dig3 221) from rfl] at hX
  have hE : bt (repW 221) = bt (dig3 221) ++ ⟨#[32]⟩ ++ bt (saidW 221) ++ ⟨#[13, 10]⟩ := by
    show bt _ = bt (dig3 221) ++ bt [32] ++ bt (saidW 221) ++ bt [13, 10]
    rw [bt_app, bt_app, bt_app]
    unfold repW
    simp
  have hz : (bt (dig3 221)).size ≤ 1000 := by rw [show (bt (dig3 221)).size = 3 from rfl]; omega
  generalize bt (dig3 221) = D at *
  have HX := Lib.hid hX
  have HE := Lib.hid hE
  have t1 : ¬ 9223372036854775807 < D.size + 1 := by omega
  have t2 : ¬ 9223372036854775807 < D.size + 1 + 3 := by omega
  have t3 : ¬ 9223372036854775807 < D.size + 1 + 3 + 2 := by omega
  clear hX hE hd
  go_enter Tryz.func34, Tryz.ntmps34
  go_wp2_with fail
  refine HX.out.mono ?_
  rintro e w1 ⟨rfl, hb1⟩
  go_wp2
  go_ret
  exact ⟨by rw [HE.out]; rfl, hb1⟩
set_option maxHeartbeats 1000000 in
set_option maxRecDepth 100000 in
theorem rrep250 (w : World) : Calls Tryz.prog 34 #[.int .i64 250] w fun e w' => e = .returned (.string (bt (repW 250))) ∧ Below w.heap.size w w' := by
  have hX := textR_any 1000 250 w (by decide) (by decide) (by decide)
  have hd : Lib.itoa (250 : Int) = dig3 250 := itoa_dig 250 (by decide) (by decide)
  rw [hd, show (⟨(dig3 250).toArray⟩ : ByteArray) = bt (dig3 250) from rfl] at hX
  have hE : bt (repW 250) = bt (dig3 250) ++ ⟨#[32]⟩ ++ bt (saidW 250) ++ ⟨#[13, 10]⟩ := by
    show bt _ = bt (dig3 250) ++ bt [32] ++ bt (saidW 250) ++ bt [13, 10]
    rw [bt_app, bt_app, bt_app]
    unfold repW
    simp
  have hz : (bt (dig3 250)).size ≤ 1000 := by rw [show (bt (dig3 250)).size = 3 from rfl]; omega
  generalize bt (dig3 250) = D at *
  have HX := Lib.hid hX
  have HE := Lib.hid hE
  have t1 : ¬ 9223372036854775807 < D.size + 1 := by omega
  have t2 : ¬ 9223372036854775807 < D.size + 1 + 2 := by omega
  have t3 : ¬ 9223372036854775807 < D.size + 1 + 2 + 2 := by omega
  clear hX hE hd
  go_enter Tryz.func34, Tryz.ntmps34
  go_wp2_with fail
  refine HX.out.mono ?_
  rintro e w1 ⟨rfl, hb1⟩
  go_wp2
  go_ret
  exact ⟨by rw [HE.out]; rfl, hb1⟩
set_option maxHeartbeats 1000000 in
set_option maxRecDepth 100000 in
theorem rrep252 (w : World) : Calls Tryz.prog 34 #[.int .i64 252] w fun e w' => e = .returned (.string (bt (repW 252))) ∧ Below w.heap.size w w' := by
  have hX := textR_any 1000 252 w (by decide) (by decide) (by decide)
  have hd : Lib.itoa (252 : Int) = dig3 252 := itoa_dig 252 (by decide) (by decide)
  rw [hd, show (⟨(dig3 252).toArray⟩ : ByteArray) = bt (dig3 252) from rfl] at hX
  have hE : bt (repW 252) = bt (dig3 252) ++ ⟨#[32]⟩ ++ bt (saidW 252) ++ ⟨#[13, 10]⟩ := by
    show bt _ = bt (dig3 252) ++ bt [32] ++ bt (saidW 252) ++ bt [13, 10]
    rw [bt_app, bt_app, bt_app]
    unfold repW
    simp
  have hz : (bt (dig3 252)).size ≤ 1000 := by rw [show (bt (dig3 252)).size = 3 from rfl]; omega
  generalize bt (dig3 252) = D at *
  have HX := Lib.hid hX
  have HE := Lib.hid hE
  have t1 : ¬ 9223372036854775807 < D.size + 1 := by omega
  have t2 : ¬ 9223372036854775807 < D.size + 1 + 18 := by omega
  have t3 : ¬ 9223372036854775807 < D.size + 1 + 18 + 2 := by omega
  clear hX hE hd
  go_enter Tryz.func34, Tryz.ntmps34
  go_wp2_with fail
  refine HX.out.mono ?_
  rintro e w1 ⟨rfl, hb1⟩
  go_wp2
  go_ret
  exact ⟨by rw [HE.out]; rfl, hb1⟩
set_option maxHeartbeats 1000000 in
set_option maxRecDepth 100000 in
theorem rrep354 (w : World) : Calls Tryz.prog 34 #[.int .i64 354] w fun e w' => e = .returned (.string (bt (repW 354))) ∧ Below w.heap.size w w' := by
  have hX := textR_any 1000 354 w (by decide) (by decide) (by decide)
  have hd : Lib.itoa (354 : Int) = dig3 354 := itoa_dig 354 (by decide) (by decide)
  rw [hd, show (⟨(dig3 354).toArray⟩ : ByteArray) = bt (dig3 354) from rfl] at hX
  have hE : bt (repW 354) = bt (dig3 354) ++ ⟨#[32]⟩ ++ bt (saidW 354) ++ ⟨#[13, 10]⟩ := by
    show bt _ = bt (dig3 354) ++ bt [32] ++ bt (saidW 354) ++ bt [13, 10]
    rw [bt_app, bt_app, bt_app]
    unfold repW
    simp
  have hz : (bt (dig3 354)).size ≤ 1000 := by rw [show (bt (dig3 354)).size = 3 from rfl]; omega
  generalize bt (dig3 354) = D at *
  have HX := Lib.hid hX
  have HE := Lib.hid hE
  have t1 : ¬ 9223372036854775807 < D.size + 1 := by omega
  have t2 : ¬ 9223372036854775807 < D.size + 1 + 16 := by omega
  have t3 : ¬ 9223372036854775807 < D.size + 1 + 16 + 2 := by omega
  clear hX hE hd
  go_enter Tryz.func34, Tryz.ntmps34
  go_wp2_with fail
  refine HX.out.mono ?_
  rintro e w1 ⟨rfl, hb1⟩
  go_wp2
  go_ret
  exact ⟨by rw [HE.out]; rfl, hb1⟩
set_option maxHeartbeats 1000000 in
set_option maxRecDepth 100000 in
theorem rrep451 (w : World) : Calls Tryz.prog 34 #[.int .i64 451] w fun e w' => e = .returned (.string (bt (repW 451))) ∧ Below w.heap.size w w' := by
  have hX := textR_any 1000 451 w (by decide) (by decide) (by decide)
  have hd : Lib.itoa (451 : Int) = dig3 451 := itoa_dig 451 (by decide) (by decide)
  rw [hd, show (⟨(dig3 451).toArray⟩ : ByteArray) = bt (dig3 451) from rfl] at hX
  have hE : bt (repW 451) = bt (dig3 451) ++ ⟨#[32]⟩ ++ bt (saidW 451) ++ ⟨#[13, 10]⟩ := by
    show bt _ = bt (dig3 451) ++ bt [32] ++ bt (saidW 451) ++ bt [13, 10]
    rw [bt_app, bt_app, bt_app]
    unfold repW
    simp
  have hz : (bt (dig3 451)).size ≤ 1000 := by rw [show (bt (dig3 451)).size = 3 from rfl]; omega
  generalize bt (dig3 451) = D at *
  have HX := Lib.hid hX
  have HE := Lib.hid hE
  have t1 : ¬ 9223372036854775807 < D.size + 1 := by omega
  have t2 : ¬ 9223372036854775807 < D.size + 1 + 11 := by omega
  have t3 : ¬ 9223372036854775807 < D.size + 1 + 11 + 2 := by omega
  clear hX hE hd
  go_enter Tryz.func34, Tryz.ntmps34
  go_wp2_with fail
  refine HX.out.mono ?_
  rintro e w1 ⟨rfl, hb1⟩
  go_wp2
  go_ret
  exact ⟨by rw [HE.out]; rfl, hb1⟩
set_option maxHeartbeats 1000000 in
set_option maxRecDepth 100000 in
theorem rrep452 (w : World) : Calls Tryz.prog 34 #[.int .i64 452] w fun e w' => e = .returned (.string (bt (repW 452))) ∧ Below w.heap.size w w' := by
  have hX := textR_any 1000 452 w (by decide) (by decide) (by decide)
  have hd : Lib.itoa (452 : Int) = dig3 452 := itoa_dig 452 (by decide) (by decide)
  rw [hd, show (⟨(dig3 452).toArray⟩ : ByteArray) = bt (dig3 452) from rfl] at hX
  have hE : bt (repW 452) = bt (dig3 452) ++ ⟨#[32]⟩ ++ bt (saidW 452) ++ ⟨#[13, 10]⟩ := by
    show bt _ = bt (dig3 452) ++ bt [32] ++ bt (saidW 452) ++ bt [13, 10]
    rw [bt_app, bt_app, bt_app]
    unfold repW
    simp
  have hz : (bt (dig3 452)).size ≤ 1000 := by rw [show (bt (dig3 452)).size = 3 from rfl]; omega
  generalize bt (dig3 452) = D at *
  have HX := Lib.hid hX
  have HE := Lib.hid hE
  have t1 : ¬ 9223372036854775807 < D.size + 1 := by omega
  have t2 : ¬ 9223372036854775807 < D.size + 1 + 20 := by omega
  have t3 : ¬ 9223372036854775807 < D.size + 1 + 20 + 2 := by omega
  clear hX hE hd
  go_enter Tryz.func34, Tryz.ntmps34
  go_wp2_with fail
  refine HX.out.mono ?_
  rintro e w1 ⟨rfl, hb1⟩
  go_wp2
  go_ret
  exact ⟨by rw [HE.out]; rfl, hb1⟩
set_option maxHeartbeats 1000000 in
set_option maxRecDepth 100000 in
theorem rrep500 (w : World) : Calls Tryz.prog 34 #[.int .i64 500] w fun e w' => e = .returned (.string (bt (repW 500))) ∧ Below w.heap.size w w' := by
  have hX := textR_any 1000 500 w (by decide) (by decide) (by decide)
  have hd : Lib.itoa (500 : Int) = dig3 500 := itoa_dig 500 (by decide) (by decide)
  rw [hd, show (⟨(dig3 500).toArray⟩ : ByteArray) = bt (dig3 500) from rfl] at hX
  have hE : bt (repW 500) = bt (dig3 500) ++ ⟨#[32]⟩ ++ bt (saidW 500) ++ ⟨#[13, 10]⟩ := by
    show bt _ = bt (dig3 500) ++ bt [32] ++ bt (saidW 500) ++ bt [13, 10]
    rw [bt_app, bt_app, bt_app]
    unfold repW
    simp
  have hz : (bt (dig3 500)).size ≤ 1000 := by rw [show (bt (dig3 500)).size = 3 from rfl]; omega
  generalize bt (dig3 500) = D at *
  have HX := Lib.hid hX
  have HE := Lib.hid hE
  have t1 : ¬ 9223372036854775807 < D.size + 1 := by omega
  have t2 : ¬ 9223372036854775807 < D.size + 1 + 12 := by omega
  have t3 : ¬ 9223372036854775807 < D.size + 1 + 12 + 2 := by omega
  clear hX hE hd
  go_enter Tryz.func34, Tryz.ntmps34
  go_wp2_with fail
  refine HX.out.mono ?_
  rintro e w1 ⟨rfl, hb1⟩
  go_wp2
  go_ret
  exact ⟨by rw [HE.out]; rfl, hb1⟩
set_option maxHeartbeats 1000000 in
set_option maxRecDepth 100000 in
theorem rrep501 (w : World) : Calls Tryz.prog 34 #[.int .i64 501] w fun e w' => e = .returned (.string (bt (repW 501))) ∧ Below w.heap.size w w' := by
  have hX := textR_any 1000 501 w (by decide) (by decide) (by decide)
  have hd : Lib.itoa (501 : Int) = dig3 501 := itoa_dig 501 (by decide) (by decide)
  rw [hd, show (⟨(dig3 501).toArray⟩ : ByteArray) = bt (dig3 501) from rfl] at hX
  have hE : bt (repW 501) = bt (dig3 501) ++ ⟨#[32]⟩ ++ bt (saidW 501) ++ ⟨#[13, 10]⟩ := by
    show bt _ = bt (dig3 501) ++ bt [32] ++ bt (saidW 501) ++ bt [13, 10]
    rw [bt_app, bt_app, bt_app]
    unfold repW
    simp
  have hz : (bt (dig3 501)).size ≤ 1000 := by rw [show (bt (dig3 501)).size = 3 from rfl]; omega
  generalize bt (dig3 501) = D at *
  have HX := Lib.hid hX
  have HE := Lib.hid hE
  have t1 : ¬ 9223372036854775807 < D.size + 1 := by omega
  have t2 : ¬ 9223372036854775807 < D.size + 1 + 26 := by omega
  have t3 : ¬ 9223372036854775807 < D.size + 1 + 26 + 2 := by omega
  clear hX hE hd
  go_enter Tryz.func34, Tryz.ntmps34
  go_wp2_with fail
  refine HX.out.mono ?_
  rintro e w1 ⟨rfl, hb1⟩
  go_wp2
  go_ret
  exact ⟨by rw [HE.out]; rfl, hb1⟩
set_option maxHeartbeats 1000000 in
set_option maxRecDepth 100000 in
theorem rrep503 (w : World) : Calls Tryz.prog 34 #[.int .i64 503] w fun e w' => e = .returned (.string (bt (repW 503))) ∧ Below w.heap.size w w' := by
  have hX := textR_any 1000 503 w (by decide) (by decide) (by decide)
  have hd : Lib.itoa (503 : Int) = dig3 503 := itoa_dig 503 (by decide) (by decide)
  rw [hd, show (⟨(dig3 503).toArray⟩ : ByteArray) = bt (dig3 503) from rfl] at hX
  have hE : bt (repW 503) = bt (dig3 503) ++ ⟨#[32]⟩ ++ bt (saidW 503) ++ ⟨#[13, 10]⟩ := by
    show bt _ = bt (dig3 503) ++ bt [32] ++ bt (saidW 503) ++ bt [13, 10]
    rw [bt_app, bt_app, bt_app]
    unfold repW
    simp
  have hz : (bt (dig3 503)).size ≤ 1000 := by rw [show (bt (dig3 503)).size = 3 from rfl]; omega
  generalize bt (dig3 503) = D at *
  have HX := Lib.hid hX
  have HE := Lib.hid hE
  have t1 : ¬ 9223372036854775807 < D.size + 1 := by omega
  have t2 : ¬ 9223372036854775807 < D.size + 1 + 24 := by omega
  have t3 : ¬ 9223372036854775807 < D.size + 1 + 24 + 2 := by omega
  clear hX hE hd
  go_enter Tryz.func34, Tryz.ntmps34
  go_wp2_with fail
  refine HX.out.mono ?_
  rintro e w1 ⟨rfl, hb1⟩
  go_wp2
  go_ret
  exact ⟨by rw [HE.out]; rfl, hb1⟩
set_option maxHeartbeats 1000000 in
set_option maxRecDepth 100000 in
theorem rrep552 (w : World) : Calls Tryz.prog 34 #[.int .i64 552] w fun e w' => e = .returned (.string (bt (repW 552))) ∧ Below w.heap.size w w' := by
  have hX := textR_any 1000 552 w (by decide) (by decide) (by decide)
  have hd : Lib.itoa (552 : Int) = dig3 552 := itoa_dig 552 (by decide) (by decide)
  rw [hd, show (⟨(dig3 552).toArray⟩ : ByteArray) = bt (dig3 552) from rfl] at hX
  have hE : bt (repW 552) = bt (dig3 552) ++ ⟨#[32]⟩ ++ bt (saidW 552) ++ ⟨#[13, 10]⟩ := by
    show bt _ = bt (dig3 552) ++ bt [32] ++ bt (saidW 552) ++ bt [13, 10]
    rw [bt_app, bt_app, bt_app]
    unfold repW
    simp
  have hz : (bt (dig3 552)).size ≤ 1000 := by rw [show (bt (dig3 552)).size = 3 from rfl]; omega
  generalize bt (dig3 552) = D at *
  have HX := Lib.hid hX
  have HE := Lib.hid hE
  have t1 : ¬ 9223372036854775807 < D.size + 1 := by omega
  have t2 : ¬ 9223372036854775807 < D.size + 1 + 26 := by omega
  have t3 : ¬ 9223372036854775807 < D.size + 1 + 26 + 2 := by omega
  clear hX hE hd
  go_enter Tryz.func34, Tryz.ntmps34
  go_wp2_with fail
  refine HX.out.mono ?_
  rintro e w1 ⟨rfl, hb1⟩
  go_wp2
  go_ret
  exact ⟨by rw [HE.out]; rfl, hb1⟩
set_option maxHeartbeats 1000000 in
set_option maxRecDepth 100000 in
theorem rrep554 (w : World) : Calls Tryz.prog 34 #[.int .i64 554] w fun e w' => e = .returned (.string (bt (repW 554))) ∧ Below w.heap.size w w' := by
  have hX := textR_any 1000 554 w (by decide) (by decide) (by decide)
  have hd : Lib.itoa (554 : Int) = dig3 554 := itoa_dig 554 (by decide) (by decide)
  rw [hd, show (⟨(dig3 554).toArray⟩ : ByteArray) = bt (dig3 554) from rfl] at hX
  have hE : bt (repW 554) = bt (dig3 554) ++ ⟨#[32]⟩ ++ bt (saidW 554) ++ ⟨#[13, 10]⟩ := by
    show bt _ = bt (dig3 554) ++ bt [32] ++ bt (saidW 554) ++ bt [13, 10]
    rw [bt_app, bt_app, bt_app]
    unfold repW
    simp
  have hz : (bt (dig3 554)).size ≤ 1000 := by rw [show (bt (dig3 554)).size = 3 from rfl]; omega
  generalize bt (dig3 554) = D at *
  have HX := Lib.hid hX
  have HE := Lib.hid hE
  have t1 : ¬ 9223372036854775807 < D.size + 1 := by omega
  have t2 : ¬ 9223372036854775807 < D.size + 1 + 18 := by omega
  have t3 : ¬ 9223372036854775807 < D.size + 1 + 18 + 2 := by omega
  clear hX hE hd
  go_enter Tryz.func34, Tryz.ntmps34
  go_wp2_with fail
  refine HX.out.mono ?_
  rintro e w1 ⟨rfl, hb1⟩
  go_wp2
  go_ret
  exact ⟨by rw [HE.out]; rfl, hb1⟩
/-- the reference's session in block rb -/
def RawR (w : World) (rb most fb : Nat) (kv : Value) (g h : Bool) (fr : ByteArray) (tv : Value) (tk lg : Bool) (B : ByteArray) (wt ov : Bool) : Prop :=
  w.heap[rb]? = some (.cells #[.int .i64 most, .pointer (some ⟨fb, 0, none⟩), kv, .bool g, .bool h, .string fr, tv, .bool tk, .bool lg, .string B, .bool wt, .bool ov] 66 (0, 0))
section
variable {w w' : World} {rb most fb : Nat} {kv tv : Value} {g h tk lg wt ov : Bool} {fr B : ByteArray}
structure RCs (w : World) (rb most fb : Nat) (kv : Value) (g h : Bool) (fr : ByteArray) (tv : Value) (tk lg : Bool) (B : ByteArray) (wt ov : Bool) : Prop where
  c0 : w.cell? ⟨rb, 0, none⟩ = some (.int .i64 most)
  c1 : w.cell? ⟨rb, 1, none⟩ = some (.pointer (some ⟨fb, 0, none⟩))
  c2 : w.cell? ⟨rb, 2, none⟩ = some kv
  c3 : w.cell? ⟨rb, 3, none⟩ = some (.bool g)
  c4 : w.cell? ⟨rb, 4, none⟩ = some (.bool h)
  c5 : w.cell? ⟨rb, 5, none⟩ = some (.string fr)
  c6 : w.cell? ⟨rb, 6, none⟩ = some tv
  c7 : w.cell? ⟨rb, 7, none⟩ = some (.bool tk)
  c8 : w.cell? ⟨rb, 8, none⟩ = some (.bool lg)
  c9 : w.cell? ⟨rb, 9, none⟩ = some (.string B)
  c10 : w.cell? ⟨rb, 10, none⟩ = some (.bool wt)
  c11 : w.cell? ⟨rb, 11, none⟩ = some (.bool ov)
theorem RawR.cells (x : RawR w rb most fb kv g h fr tv tk lg B wt ov) : RCs w rb most fb kv g h fr tv tk lg B wt ov := by
  unfold RawR at x
  refine ⟨?_, ?_, ?_, ?_, ?_, ?_, ?_, ?_, ?_, ?_, ?_, ?_⟩ <;> exact (Lib.cell_of_heap x _).trans rfl
theorem RawR.frz (x : RawR w rb most fb kv g h fr tv tk lg B wt ov) : ∀ i, w.frozen? ⟨rb, i, none⟩ = false := by
  unfold RawR at x
  exact fun i => by simp [World.frozen?, x]
theorem RawR.lt (x : RawR w rb most fb kv g h fr tv tk lg B wt ov) : rb < w.heap.size := lt_of_block x
theorem RawR.later (x : RawR w rb most fb kv g h fr tv tk lg B wt ov) (hb : Below w.heap.size w w') : RawR w' rb most fb kv g h fr tv tk lg B wt ov := (hb.block rb x.lt).trans x
theorem RawR.set2 (x : RawR w rb most fb kv g h fr tv tk lg B wt ov) (u : Value) : RawR (w.setCell ⟨rb, 2, none⟩ u) rb most fb u g h fr tv tk lg B wt ov := by
  unfold RawR at *; simp [World.setCell, Array.getElem?_modify, x]
theorem RawR.set3 (x : RawR w rb most fb kv g h fr tv tk lg B wt ov) (u : Bool) : RawR (w.setCell ⟨rb, 3, none⟩ (.bool u)) rb most fb kv u h fr tv tk lg B wt ov := by
  unfold RawR at *; simp [World.setCell, Array.getElem?_modify, x]
theorem RawR.set4 (x : RawR w rb most fb kv g h fr tv tk lg B wt ov) (u : Bool) : RawR (w.setCell ⟨rb, 4, none⟩ (.bool u)) rb most fb kv g u fr tv tk lg B wt ov := by
  unfold RawR at *; simp [World.setCell, Array.getElem?_modify, x]
theorem RawR.set5 (x : RawR w rb most fb kv g h fr tv tk lg B wt ov) (u : ByteArray) : RawR (w.setCell ⟨rb, 5, none⟩ (.string u)) rb most fb kv g h u tv tk lg B wt ov := by
  unfold RawR at *; simp [World.setCell, Array.getElem?_modify, x]
theorem RawR.set6 (x : RawR w rb most fb kv g h fr tv tk lg B wt ov) (u : Value) : RawR (w.setCell ⟨rb, 6, none⟩ u) rb most fb kv g h fr u tk lg B wt ov := by
  unfold RawR at *; simp [World.setCell, Array.getElem?_modify, x]
theorem RawR.set7 (x : RawR w rb most fb kv g h fr tv tk lg B wt ov) (u : Bool) : RawR (w.setCell ⟨rb, 7, none⟩ (.bool u)) rb most fb kv g h fr tv u lg B wt ov := by
  unfold RawR at *; simp [World.setCell, Array.getElem?_modify, x]
theorem RawR.set8 (x : RawR w rb most fb kv g h fr tv tk lg B wt ov) (u : Bool) : RawR (w.setCell ⟨rb, 8, none⟩ (.bool u)) rb most fb kv g h fr tv tk u B wt ov := by
  unfold RawR at *; simp [World.setCell, Array.getElem?_modify, x]
theorem RawR.set9 (x : RawR w rb most fb kv g h fr tv tk lg B wt ov) (u : ByteArray) : RawR (w.setCell ⟨rb, 9, none⟩ (.string u)) rb most fb kv g h fr tv tk lg u wt ov := by
  unfold RawR at *; simp [World.setCell, Array.getElem?_modify, x]
theorem RawR.set10 (x : RawR w rb most fb kv g h fr tv tk lg B wt ov) (u : Bool) : RawR (w.setCell ⟨rb, 10, none⟩ (.bool u)) rb most fb kv g h fr tv tk lg B u ov := by
  unfold RawR at *; simp [World.setCell, Array.getElem?_modify, x]
theorem RawR.set11 (x : RawR w rb most fb kv g h fr tv tk lg B wt ov) (u : Bool) : RawR (w.setCell ⟨rb, 11, none⟩ (.bool u)) rb most fb kv g h fr tv tk lg B wt u := by
  unfold RawR at *; simp [World.setCell, Array.getElem?_modify, x]
set_option maxRecDepth 100000 in
theorem anewR_any (x : RawR w rb most fb kv g h fr tv tk lg B wt ov) :
    Calls Tryz.prog 45 #[.pointer (some ⟨rb, 0, none⟩)] w fun e w' => e = .returned (.tuple #[]) ∧ RawR w' rb most fb kv g false ⟨#[]⟩ (.slice none 0 0) tk lg B wt ov ∧ Fr (Bk rb) w w' := by
  have c4 := x.cells.c4
  have c5 := x.cells.c5
  have c6 := x.cells.c6
  have f4 := x.frz 4
  have f5 := x.frz 5
  have f6 := x.frz 6
  have H := Lib.hid x
  clear x
  go_enter Tryz.func45, Tryz.ntmps45
  go_wp2
  refine bodyPost_end (results_none rfl _ _ _) (by rfl) ?_
  exact ⟨rfl, ((H.out.set4 _).set5 _).set6 _, (((Fr.refl (Bk rb) _).setCell (by rfl) _).setCell (by rfl) _).setCell (by rfl) _⟩
set_option maxHeartbeats 1000000 in
set_option maxRecDepth 100000 in
theorem lnewR_any (w : World) : Calls Tryz.prog 32 #[.int .i64 1000] w fun e w' => e = .returned (.pointer (some ⟨w.heap.size, 0, none⟩)) ∧ w' = w.alloc (.cells #[.int .i64 1000, .string ⟨#[]⟩] 84) := by
  go_enter Tryz.func32, Tryz.ntmps32
  go_wp2
  go_ret
  exact ⟨rfl, rfl⟩
set_option maxHeartbeats 1000000 in
set_option maxRecDepth 100000 in
theorem newR_any (n : Int) (w : World) : Calls Tryz.prog 11 #[.int .i64 n] w fun e w' => e = .returned (.pointer (some ⟨w.heap.size + 1, 0, none⟩)) ∧ Below w.heap.size w w' ∧
    RawR w' (w.heap.size + 1) (clampM n) w.heap.size (.slice none 0 0) false false ⟨#[]⟩ (.slice none 0 0) false false ⟨#[]⟩ false false ∧
    w'.heap[w.heap.size]? = some (.cells #[.int .i64 1000, .string ⟨#[]⟩] 84 (0, 0)) := by
  have HL := Lib.hid (lnewR_any w)
  have u1 : min (max n 1) 65536 = ((clampM n : Nat) : Int) := by unfold clampM; omega
  go_enter Tryz.func11, Tryz.ntmps11
  go_wp2_with fail
  refine HL.out.mono ?_
  rintro e w2 ⟨rfl, rfl⟩
  go_wp2
  go_ret
  refine ⟨by simp, ?_, ?_, ?_⟩
  · exact ((Below.refl _ _).alloc (Nat.le_refl _) _).alloc (by simp) _
  · unfold RawR
    have := heap_alloc_new (w.alloc (.cells #[.int .i64 1000, .string ⟨#[]⟩] 84)) (.cells #[.int .i64 (clampM n : Nat), .pointer (some ⟨w.heap.size, 0, none⟩), .slice none 0 0, .bool false, .bool false, .string ⟨#[]⟩, .slice none 0 0, .bool false, .bool false, .string ⟨#[]⟩, .bool false, .bool false] 66)
    simpa using this
  · rw [Below.heap_alloc _ _ _ (by simp)]
    exact heap_alloc_new w _
theorem greetR_any (p : Value) (w : World) : Calls Tryz.prog 13 #[p] w fun e w' => e = .returned (.string (bt (repW 220))) ∧ Below w.heap.size w w' := by
  have HR := Lib.hid (rrep220 w)
  go_enter Tryz.func13, Tryz.ntmps13
  go_wp2_with fail
  refine HR.out.mono ?_
  rintro e w1 ⟨rfl, hb1⟩
  go_wp2
  go_ret
  exact ⟨rfl, hb1⟩
theorem overR_any (x : RawR w rb most fb kv g h fr tv tk lg B wt ov) : Calls Tryz.prog 17 #[.pointer (some ⟨rb, 0, none⟩)] w fun e w' => e = .returned (.bool ov) ∧ w' = w := by
  have c11 := x.cells.c11
  clear x
  go_enter Tryz.func17, Tryz.ntmps17
  go_wp2
  go_ret
  exact ⟨rfl, rfl⟩
theorem answerR_no (e0 : Int) (x : RawR w rb most fb kv g h fr tv tk lg B false ov) : Calls Tryz.prog 22 #[.pointer (some ⟨rb, 0, none⟩), .int .i64 e0] w fun e w' => e = .returned (.string ⟨#[]⟩) ∧ w' = w := by
  have c10 := x.cells.c10
  clear x
  go_enter Tryz.func22, Tryz.ntmps22
  go_wp2
  go_ret
  exact ⟨rfl, rfl⟩
set_option maxHeartbeats 4000000 in
set_option maxRecDepth 100000 in
theorem answerR_yes (e0 : Int) (x : RawR w rb most fb kv g h fr tv tk lg B true ov) :
    Calls Tryz.prog 22 #[.pointer (some ⟨rb, 0, none⟩), .int .i64 e0] w fun e w' => e = .returned (.string (bt (repW (answerC e0)))) ∧ RawR w' rb most fb kv g false ⟨#[]⟩ (.slice none 0 0) tk lg B false ov ∧ Fr (Bk rb) w w' := by
  have c10 := x.cells.c10
  have f10 := x.frz 10
  have hF : Fr (Bk rb) w (w.setCell ⟨rb, 10, none⟩ (.bool false)) := (Fr.refl (Bk rb) w).setCell (by rfl) _
  have HZ := Lib.hid (anewR_any (x.set10 false))
  have HX := Lib.hid hF
  clear x hF
  by_cases h0 : e0 = 0
  · subst h0
    go_enter Tryz.func22, Tryz.ntmps22
    go_wp2_with fail
    refine HZ.out.mono ?_
    rintro e w1 ⟨rfl, h2, f2⟩
    have HR := Lib.hid (rrep250 w1)
    have HY := Lib.hid (And.intro (HX.out.trans f2 (fun _ e => .inl e)) h2)
    clear f2 h2
    go_wp2_with fail
    refine HR.out.mono ?_
    rintro e w2 ⟨rfl, hb2⟩
    go_wp2
    go_ret
    exact ⟨rfl, HY.out.2.later hb2, HY.out.1.then hb2⟩
  by_cases h1 : e0 = 16
  · subst h1
    clear h0
    go_enter Tryz.func22, Tryz.ntmps22
    go_wp2_with fail
    refine HZ.out.mono ?_
    rintro e w1 ⟨rfl, h2, f2⟩
    have HR := Lib.hid (rrep552 w1)
    have HY := Lib.hid (And.intro (HX.out.trans f2 (fun _ e => .inl e)) h2)
    clear f2 h2
    go_wp2_with fail
    refine HR.out.mono ?_
    rintro e w2 ⟨rfl, hb2⟩
    go_wp2
    go_ret
    exact ⟨rfl, HY.out.2.later hb2, HY.out.1.then hb2⟩
  by_cases h2 : e0 = 3
  · subst h2
    clear h0 h1
    go_enter Tryz.func22, Tryz.ntmps22
    go_wp2_with fail
    refine HZ.out.mono ?_
    rintro e w1 ⟨rfl, h2, f2⟩
    have HR := Lib.hid (rrep452 w1)
    have HY := Lib.hid (And.intro (HX.out.trans f2 (fun _ e => .inl e)) h2)
    clear f2 h2
    go_wp2_with fail
    refine HR.out.mono ?_
    rintro e w2 ⟨rfl, hb2⟩
    go_wp2
    go_ret
    exact ⟨rfl, HY.out.2.later hb2, HY.out.1.then hb2⟩
  by_cases h3 : e0 = 13
  · subst h3
    clear h0 h1 h2
    go_enter Tryz.func22, Tryz.ntmps22
    go_wp2_with fail
    refine HZ.out.mono ?_
    rintro e w1 ⟨rfl, h2, f2⟩
    have HR := Lib.hid (rrep451 w1)
    have HY := Lib.hid (And.intro (HX.out.trans f2 (fun _ e => .inl e)) h2)
    clear f2 h2
    go_wp2_with fail
    refine HR.out.mono ?_
    rintro e w2 ⟨rfl, hb2⟩
    go_wp2
    go_ret
    exact ⟨rfl, HY.out.2.later hb2, HY.out.1.then hb2⟩
  by_cases h4 : e0 = 14
  · subst h4
    clear h0 h1 h2 h3
    go_enter Tryz.func22, Tryz.ntmps22
    go_wp2_with fail
    refine HZ.out.mono ?_
    rintro e w1 ⟨rfl, h2, f2⟩
    have HR := Lib.hid (rrep451 w1)
    have HY := Lib.hid (And.intro (HX.out.trans f2 (fun _ e => .inl e)) h2)
    clear f2 h2
    go_wp2_with fail
    refine HR.out.mono ?_
    rintro e w2 ⟨rfl, hb2⟩
    go_wp2
    go_ret
    exact ⟨rfl, HY.out.2.later hb2, HY.out.1.then hb2⟩
  by_cases h5 : e0 = 22
  · subst h5
    clear h0 h1 h2 h3 h4
    go_enter Tryz.func22, Tryz.ntmps22
    go_wp2_with fail
    refine HZ.out.mono ?_
    rintro e w1 ⟨rfl, h2, f2⟩
    have HR := Lib.hid (rrep451 w1)
    have HY := Lib.hid (And.intro (HX.out.trans f2 (fun _ e => .inl e)) h2)
    clear f2 h2
    go_wp2_with fail
    refine HR.out.mono ?_
    rintro e w2 ⟨rfl, hb2⟩
    go_wp2
    go_ret
    exact ⟨rfl, HY.out.2.later hb2, HY.out.1.then hb2⟩
  have HE := Lib.hid (show answerC e0 = 554 ∧ 0 ≤ 0 from ⟨answerC_else e0 h0 h1 h2 h3 h4 h5, Nat.le_refl _⟩)
  have q0 : (e0 == 0) = false := beq_eq_false_iff_ne.2 h0
  have q1 : (e0 == 16) = false := beq_eq_false_iff_ne.2 h1
  have q2 : (e0 == 3) = false := beq_eq_false_iff_ne.2 h2
  have q3 : (e0 == 13) = false := beq_eq_false_iff_ne.2 h3
  have q4 : (e0 == 14) = false := beq_eq_false_iff_ne.2 h4
  have q5 : (e0 == 22) = false := beq_eq_false_iff_ne.2 h5
  clear h0 h1 h2 h3 h4 h5
  go_enter Tryz.func22, Tryz.ntmps22
  go_wp2_with fail
  refine HZ.out.mono ?_
  rintro e w1 ⟨rfl, h2, f2⟩
  have HR := Lib.hid (rrep554 w1)
  have HY := Lib.hid (And.intro (HX.out.trans f2 (fun _ e => .inl e)) h2)
  clear f2 h2
  go_wp2_with fail
  refine HR.out.mono ?_
  rintro e w2 ⟨rfl, hb2⟩
  go_wp2
  go_ret
  exact ⟨(by rw [HE.out.1]; rfl), HY.out.2.later hb2, HY.out.1.then hb2⟩
/-- RSET, QUIT, DATA -/
theorem bareR_rset (x : RawR w rb most fb kv g h fr tv tk lg B wt ov) : Calls Tryz.prog 78 #[.pointer (some ⟨rb, 0, none⟩), .string ⟨#[82, 83, 69, 84]⟩] w fun e w' => e = .returned (.string (bt (repW 250))) ∧ RawR w' rb most fb kv g false ⟨#[]⟩ (.slice none 0 0) tk lg B wt ov ∧ Fr (Bk rb) w w' := by
  have HZ := Lib.hid (anewR_any x)
  clear x
  go_enter Tryz.func78, Tryz.ntmps78
  go_wp2_with fail
  refine HZ.out.mono ?_
  rintro e w1 ⟨rfl, h2, f2⟩
  have HR := Lib.hid (rrep250 w1)
  have HY := Lib.hid (And.intro f2 h2)
  clear f2 h2
  go_wp2_with fail
  refine HR.out.mono ?_
  rintro e w2 ⟨rfl, hb2⟩
  go_wp2
  go_ret
  exact ⟨rfl, HY.out.2.later hb2, HY.out.1.then hb2⟩
theorem bareR_quit (x : RawR w rb most fb kv g h fr tv tk lg B wt ov) : Calls Tryz.prog 78 #[.pointer (some ⟨rb, 0, none⟩), .string ⟨#[81, 85, 73, 84]⟩] w fun e w' => e = .returned (.string (bt (repW 221))) ∧ RawR w' rb most fb kv g h fr tv tk lg B wt true ∧ Fr (Bk rb) w w' := by
  have c11 := x.cells.c11
  have f11 := x.frz 11
  have HR := Lib.hid (rrep221 (w.setCell ⟨rb, 11, none⟩ (.bool true)))
  have HY := Lib.hid (And.intro ((Fr.refl (Bk rb) w).setCell (b := rb) (o := 11) (by rfl) (.bool true)) (x.set11 true))
  clear x
  go_enter Tryz.func78, Tryz.ntmps78
  go_wp2_with fail
  refine HR.out.mono ?_
  rintro e w2 ⟨rfl, hb2⟩
  go_wp2
  go_ret
  exact ⟨rfl, HY.out.2.later hb2, HY.out.1.then hb2⟩
theorem bareR_data0 (x : RawR w rb most fb kv g h fr tv tk lg B wt ov) {p : Option Addr} {c : Nat} (hv : tv = .slice p 0 c) : Calls Tryz.prog 78 #[.pointer (some ⟨rb, 0, none⟩), .string ⟨#[68, 65, 84, 65]⟩] w fun e w' => e = .returned (.string (bt (repW 503))) ∧ Below w.heap.size w w' := by
  subst hv
  have c6 := x.cells.c6
  have HR := Lib.hid (rrep503 w)
  clear x
  go_enter Tryz.func78, Tryz.ntmps78
  go_wp2_with fail
  refine HR.out.mono ?_
  rintro e w2 ⟨rfl, hb2⟩
  go_wp2
  go_ret
  exact ⟨rfl, hb2⟩
theorem bareR_data1 (x : RawR w rb most fb kv g h fr tv tk lg B wt ov) {p : Option Addr} {n c : Nat} (hv : tv = .slice p n c) (hn : 0 < n) : Calls Tryz.prog 78 #[.pointer (some ⟨rb, 0, none⟩), .string ⟨#[68, 65, 84, 65]⟩] w fun e w' => e = .returned (.string (bt (repW 354))) ∧ RawR w' rb most fb kv g h fr tv true false ⟨#[]⟩ wt ov ∧ Fr (Bk rb) w w' := by
  subst hv
  have c6 := x.cells.c6
  have c7 := x.cells.c7
  have c8 := x.cells.c8
  have c9 := x.cells.c9
  have f7 := x.frz 7
  have f8 := x.frz 8
  have f9 := x.frz 9
  have q1 : ((n : Int) == 0) = false := beq_eq_false_iff_ne.2 (by omega)
  have HR := Lib.hid (fun w => rrep354 w)
  have HY := Lib.hid (And.intro ((((Fr.refl (Bk rb) w).setCell (b := rb) (o := 7) (by rfl) (.bool true)).setCell (b := rb) (o := 8) (by rfl) (.bool false)).setCell (b := rb) (o := 9) (by rfl) (.string ⟨#[]⟩)) (((x.set7 true).set8 false).set9 ⟨#[]⟩))
  clear x hn
  go_enter Tryz.func78, Tryz.ntmps78
  go_wp2_with fail
  refine (HR.out _).mono ?_
  rintro e w2 ⟨rfl, hb2⟩
  go_wp2
  go_ret
  exact ⟨rfl, HY.out.2.later hb2, HY.out.1.then hb2⟩
end
end Go.Proofs.YtjoipgekmnnlpaaGreatDoor
namespace Go.Proofs.YtjoipgekmnnlpaaGreatDoor
open Go.RowKit Go.Shelf Go.Lib Pk Hx C1 Sm

theorem behV_some (x : List UInt8) : behV (some x) = .tuple #[.string (bt x), .bool true] := rfl
theorem behV_none : behV none = .tuple #[.string ⟨#[]⟩, .bool false] := rfl
theorem pathV_some (a y : List UInt8) : pathV (some (a, y)) = .tuple #[.string (bt a), .string (bt y), .bool true] := rfl
theorem pathV_none : pathV none = .tuple #[.string ⟨#[]⟩, .string ⟨#[]⟩, .bool false] := rfl
/-- the word is read as far as k -/
def WdAt (T : ByteArray) (k : Nat) : Prop := T.data.toList.takeWhile (fun c => !blk c) = T.data.toList.take k ++ (tl T k).takeWhile (fun c => !blk c) ∧ T.data.toList.dropWhile (fun c => !blk c) = (tl T k).dropWhile (fun c => !blk c)
theorem wdAt_zero (T : ByteArray) : WdAt T 0 := ⟨by rw [tl_zero]; rfl, by rw [tl_zero]⟩
theorem wdAt_step {T : ByteArray} {k : Nat} (h : WdAt T k) (hk : k < T.size) : (blk T[k] = false → WdAt T (k + 1)) ∧ (blk T[k] = true → T.data.toList.takeWhile (fun c => !blk c) = T.data.toList.take k ∧ T.data.toList.dropWhile (fun c => !blk c) = tl T k) := by
  obtain ⟨a, b⟩ := h
  have hc := tl_cons T k hk
  rw [hc, List.takeWhile_cons] at a
  rw [hc, List.dropWhile_cons] at b
  refine ⟨fun e => ?_, fun e => ?_⟩
  · rw [e] at a b
    simp only [Bool.not_false, if_true] at a b
    refine ⟨?_, b⟩
    have hl : k < T.data.toList.length := hk
    rw [a, List.take_succ_eq_append_getElem hl, List.append_assoc]
    rfl
  · rw [e] at a b
    simp only [Bool.not_true, Bool.false_eq_true, if_false] at a b
    exact ⟨by rw [a, List.append_nil], by rw [b, hc]⟩
theorem wdAt_end {T : ByteArray} {k : Nat} (h : WdAt T k) (hk : ¬ k < T.size) : T.data.toList.takeWhile (fun c => !blk c) = T.data.toList.take k ∧ T.data.toList.dropWhile (fun c => !blk c) = tl T k := by
  obtain ⟨a, b⟩ := h
  rw [tl_end T k (by omega)] at a b
  refine ⟨by rw [a]; simp, by rw [b, tl_end T k (by omega)]; rfl⟩
/-- what the options answer -/
def GivIs (X0 : Option Nat) (w : World) (e : Ending) (w' : World) : Prop := ∃ (K : Nat) (B : Bool), e = .returned (.tuple #[.int .i64 K, .bool B]) ∧ (if B = true then X0 = some K else X0 = none) ∧ Below w.heap.size w w'
theorem str_nilR {s : ByteArray} (h : s = ⟨#[]⟩) : s.toList.isEmpty = true ∧ (s.toList = []) = True := by
  subst h
  rw [Lib.toList_data]
  exact ⟨rfl, eq_true rfl⟩
theorem cmp_lit (Y : ByteArray) (l : List UInt8) : (Y.toList == l) = decide (Y.data.toList = l) := by
  rw [Lib.toList_data]
  by_cases h : Y.data.toList = l
  · rw [h, beq_self_eq_true, decide_eq_true rfl]
  · rw [beq_eq_false_iff_ne.2 h, decide_eq_false h]
set_option maxHeartbeats 4000000 in
set_option maxRecDepth 100000 in
theorem given_any (y0 : ByteArray) (w : World) (hs : y0.size ≤ 1000000) (hnt : NT y0.data.toList) : Calls Tryz.prog 101 #[.string y0] w (GivIs (givW y0.data.toList) w) := by
  have h0 := gvI_zero hnt
  generalize givW y0.data.toList = X0 at *
  have H0 := Lib.hid h0
  clear h0 hnt
  go_enter Tryz.func101, Tryz.ntmps101
  go_wp2
  go_loopg [0, 4, 5, 6] y0.size (fun g sv nv xv yv wr => ∃ (S : ByteArray) (n x y : Nat), S.size = g ∧ sv = .string S ∧ nv = .int .i64 n ∧ xv = .int .i64 x ∧ yv = .int .i64 y ∧ Below w.heap.size w wr ∧ Hid (GvI S n x y y0.size X0))
  case atStart => exact ⟨y0, 0, 0, 0, rfl, rfl, rfl, rfl, rfl, Below.refl _ _, H0⟩
  case round =>
    clear H0
    obtain ⟨S, n, x, y, hg, rfl, rfl, rfl, rfl, hbel, hI⟩ := hrel
    by_cases hS : S = ⟨#[]⟩
    · obtain ⟨e1, e2⟩ := str_nilR hS
      have hx := gvI_end hI.out (by rw [hS])
      clear hS hI hg
      by_cases hx1 : x ≤ 1
      · have q1 : decide ((x : Int) ≤ 1) = true := decide_eq_true (by omega)
        by_cases hy1 : y ≤ 1
        · have q2 : decide ((y : Int) ≤ 1) = true := decide_eq_true (by omega)
          rw [if_pos ⟨hx1, hy1⟩] at hx
          have HX := Lib.hid hx
          clear hx hx1 hy1
          go_wp2
          go_ret2
          exact ⟨n, true, rfl, by rw [if_pos rfl]; exact HX.out, hbel⟩
        · have q2 : decide ((y : Int) ≤ 1) = false := decide_eq_false (by omega)
          rw [if_neg (fun e => hy1 e.2)] at hx
          have HX := Lib.hid hx
          clear hx hx1 hy1
          go_wp2
          go_ret2
          exact ⟨n, false, rfl, by rw [if_neg (by decide)]; exact HX.out, hbel⟩
      · have q1 : decide ((x : Int) ≤ 1) = false := decide_eq_false (by omega)
        rw [if_neg (fun e => hx1 e.1)] at hx
        have HX := Lib.hid hx
        clear hx hx1
        go_wp2
        go_ret2
        exact ⟨n, false, rfl, by rw [if_neg (by decide)]; exact HX.out, hbel⟩
    · obtain ⟨e1, e2, e3⟩ := str_litR hS
      have u3 : (0 : Int) < (S.size : Int) := by omega
      have hcn := data_cons' S e3
      have HB := Lib.hid (rblank_any S[0] wr)
      cases hb : blk S[0] with
      | false =>
        rw [hb] at HB
        have hx0 := gvI_head hI.out (by rw [hcn]; show (!blk S[0]) = true; rw [hb]; rfl)
        clear hcn hb hS hI hg
        go_wp2_with fail
        refine HB.out.mono ?_
        rintro e wb ⟨rfl, rfl⟩
        have HX := Lib.hid hx0
        clear hx0
        go_wp2
        go_ret2
        exact ⟨0, false, rfl, by rw [if_neg (by decide)]; exact HX.out, hbel⟩
      | true =>
        rw [hb] at HB
        have hnb : hdB S.data.toList = false := by rw [hcn]; show (!blk S[0]) = false; rw [hb]; rfl
        have hne : S.data.toList ≠ [] := by rw [hcn]; simp
        have hsz : S.size ≤ 1000000 := by have := hI.out.bx; omega
        have HTr := Lib.hid (rtrimS_any S wr hsz)
        obtain ⟨T, hT, hTd, hTs⟩ := bt_ex (trimW S.data.toList)
        rw [← hT] at HTr
        have hTl := trimW_lenR S.data.toList
        have hSl : S.data.toList.length = S.size := rfl
        have HT := Lib.hid (And.intro hTd (And.intro (show T.size ≤ S.size by omega) hsz))
        have HI := Lib.hid (And.intro hI.out (And.intro hne (And.intro hnb (And.intro hs hg))))
        have hTz : T.size ≤ 1000000 := by omega
        clear hcn hb hS hI hg hnb hne hsz hT hTd hTs hTl hSl
        go_wp2_with fail
        refine HB.out.mono ?_
        rintro e wb ⟨rfl, rfl⟩
        go_wp2_with fail
        refine HTr.out.mono ?_
        rintro e wc ⟨rfl, rfl⟩
        go_wp2_with fail
        go_loopg [7] T.size (fun g2 kv wr2 => ∃ k : Nat, k + g2 = T.size ∧ kv = .int .i64 k ∧ wr2 = wc ∧ Hid (WdAt T k))
        case atStart => exact ⟨0, by omega, rfl, rfl, wdAt_zero T⟩
        case round =>
          obtain ⟨k, hk, rfl, rfl, hW⟩ := hrel
          by_cases hlt : k < T.size
          · have r1 : decide ((k : Int) < (T.size : Int)) = true := decide_eq_true (by omega)
            have r3 : (k : Int) < (T.size : Int) := by omega
            have r6 : IntKind.i64.wrap ((k : Int) + 1) = (k : Int) + 1 := w64 rfl (by omega) (by omega)
            have HK := Lib.hid (rblank_any T[k] wr)
            obtain ⟨s1, s2⟩ := wdAt_step hW.out hlt
            cases hb : blk T[k] with
            | false =>
              rw [hb] at HK
              have HN := Lib.hid (s1 hb)
              clear s1 s2 hW hb
              go_wp2_with fail
              refine HK.out.mono ?_
              rintro e wb ⟨rfl, rfl⟩
              go_wp2
              go_roundg (T.size - (k + 1))
              case rel => exact ⟨k + 1, by omega, rfl, rfl, HN⟩
              case measure => omega
            | true =>
              rw [hb] at HK
              have hwd := s2 hb
              clear s1 s2 hW hb
              go_wp2_with fail
              refine HK.out.mono ?_
              rintro e wb ⟨rfl, rfl⟩
              obtain ⟨P, hP⟩ : ∃ P, P = T.extract 0 k := ⟨_, rfl⟩
              obtain ⟨S', hS'⟩ : ∃ S', S' = T.extract k T.size := ⟨_, rfl⟩
              have hPd : P.data.toList = (wordW S.data.toList).1 := by
                rw [hP, ext_to]
                show T.data.toList.take k = _
                rw [← hwd.1, HT.out.1]
                rfl
              have hSd : S'.data.toList = (trimW S.data.toList).dropWhile (fun c => !blk c) := by
                have e : S'.data.toList = tl T k := by rw [hS']; exact ext_from T k
                rw [e, ← hwd.2, HT.out.1]
              obtain ⟨g1, g2⟩ := gvI_step HI.out.1 HI.out.2.1 HI.out.2.2.1
              obtain ⟨g3, g4, g5⟩ := g2 S' hSd
              rw [← hPd] at g1 g4 g5
              have hPs : P.size ≤ 1000000 := by rw [hP, ByteArray.size_extract]; have := HT.out.2.2; omega
              have HB1 := Lib.hid (behind_any P ⟨#[83, 73, 90, 69, 61]⟩ wb hPs (by decide))
              have z2 : (0 : Int) ≤ (k : Int) := by omega
              have z3 : (k : Int) ≤ (T.size : Int) := by omega
              have HG := Lib.hid (And.intro g1 (And.intro g3 (And.intro g4 (And.intro g5 hPs))))
              clear g1 g2 g3 g4 g5 hSd hwd hPd hPs
              subst hP
              subst hS'
              cases hbg : beginW sizeK (T.extract 0 k).data.toList with
              | some v =>
                have hv := optW_size hbg
                have hbh := HB1.out
                rw [show beginW (⟨#[83, 73, 90, 69, 61]⟩ : ByteArray).data.toList (T.extract 0 k).data.toList = some v from hbg] at hbh
                obtain ⟨V, hV, hVd, hVs⟩ := bt_ex v
                rw [behV_some, ← hV] at hbh
                have hvl : V.size ≤ 1000000 := by
                  rw [hVs]
                  have h9 := hbg
                  unfold beginW at h9
                  split at h9
                  · injection h9 with h9
                    rw [← h9, List.length_drop]
                    have h8 : (T.extract 0 k).data.toList.length = (T.extract 0 k).size := rfl
                    have := HG.out.2.2.2.2
                    omega
                  · cases h9
                have hps := fun w => parseR_any V 0 9223372036854775807 w hvl
                rw [hVd, numV_parse] at hps
                have HBh := Lib.hid hbh
                clear hV hVd hVs hvl hbh HB1 hbg
                cases hn : numV v with
                | none =>
                  rw [hn] at hps hv
                  have HPs := Lib.hid hps
                  have hx0 := HG.out.1 (by rw [hv]; rfl)
                  clear hps hv hn HG
                  go_wp2_with fail
                  refine HBh.out.mono ?_
                  rintro e w2 ⟨rfl, hb2⟩
                  replace hbel := hbel.trans (hb2.mono hbel.size)
                  clear hb2
                  go_wp2_with fail
                  refine (HPs.out _).mono ?_
                  rintro e w3 ⟨rfl, hb3⟩
                  replace hbel := hbel.trans (hb3.mono hbel.size)
                  clear hb3
                  have HX := Lib.hid hx0
                  clear hx0
                  go_wp2
                  go_ret2
                  exact ⟨0, false, rfl, by rw [if_neg (by decide)]; exact HX.out, hbel⟩
                | some q =>
                  rw [hn] at hps hv
                  have HPs := Lib.hid hps
                  have hq : q ≤ 9223372036854775807 := by
                    unfold numV at hn
                    split at hn
                    · rename_i h9
                      injection hn with hn
                      omega
                    · cases hn
                  have HN := Lib.hid (HG.out.2.2.2.1 q hq (by rw [hv]; rfl))
                  have hst := HG.out.2.1
                  have z6 : IntKind.i64.wrap ((x : Int) + 1) = ((x + 1 : Nat) : Int) := w64 (by omega) (by have := HI.out.1.bx; have := HI.out.2.2.2; omega) (by have := HI.out.1.bx; have := HI.out.2.2.2; omega)
                  have HST := Lib.hid hst
                  clear hps hv hn HG hq hst
                  go_wp2_with fail
                  refine HBh.out.mono ?_
                  rintro e w2 ⟨rfl, hb2⟩
                  replace hbel := hbel.trans (hb2.mono hbel.size)
                  clear hb2
                  go_wp2_with fail
                  refine (HPs.out _).mono ?_
                  rintro e w3 ⟨rfl, hb3⟩
                  replace hbel := hbel.trans (hb3.mono hbel.size)
                  clear hb3
                  go_wp2
                  go_roundg ((T.extract k T.size).size)
                  case rel => exact ⟨_, q, x + 1, y, rfl, rfl, rfl, rfl, rfl, hbel, HN⟩
                  case measure => have := HST.out; have := HI.out.2.2.2; omega
              | none =>
                have hv := optW_not hbg
                have hbh := HB1.out
                rw [show beginW (⟨#[83, 73, 90, 69, 61]⟩ : ByteArray).data.toList (T.extract 0 k).data.toList = none from hbg] at hbh
                rw [behV_none] at hbh
                have HBh := Lib.hid hbh
                have hgr := fun w => rgreat_any (T.extract 0 k) w HG.out.2.2.2.2
                obtain ⟨Y, hY, hYd, -⟩ := bt_ex ((T.extract 0 k).data.toList.map up)
                rw [← hY] at hgr
                rw [← hYd] at hv
                have HGr := Lib.hid hgr
                have c7 : (Y.toList == [66, 79, 68, 89, 61, 55, 66, 73, 84]) = decide (Y.data.toList = body7) := cmp_lit Y _
                have c8 : (Y.toList == [66, 79, 68, 89, 61, 56, 66, 73, 84, 77, 73, 77, 69]) = decide (Y.data.toList = body8) := cmp_lit Y _
                have z6 : IntKind.i64.wrap ((y : Int) + 1) = ((y + 1 : Nat) : Int) := w64 (by omega) (by have := HI.out.1.by_; have := HI.out.2.2.2; omega) (by have := HI.out.1.by_; have := HI.out.2.2.2; omega)
                clear hbh hgr hY hYd HB1 hbg
                by_cases y7 : Y.data.toList = body7
                · rw [decide_eq_true y7] at c7
                  have HN := Lib.hid (HG.out.2.2.1 (by rw [hv, if_pos (.inl y7)]))
                  have HST := Lib.hid HG.out.2.1
                  clear c8 hv HG y7
                  go_wp2_with fail
                  refine HBh.out.mono ?_
                  rintro e w2 ⟨rfl, hb2⟩
                  replace hbel := hbel.trans (hb2.mono hbel.size)
                  clear hb2
                  go_wp2_with fail
                  refine (HGr.out _).mono ?_
                  rintro e w3 ⟨rfl, hb3⟩
                  replace hbel := hbel.trans (hb3.mono hbel.size)
                  clear hb3
                  go_wp2
                  go_roundg ((T.extract k T.size).size)
                  case rel => exact ⟨_, n, x, y + 1, rfl, rfl, rfl, rfl, rfl, hbel, HN⟩
                  case measure => have := HST.out; have := HI.out.2.2.2; omega
                · rw [decide_eq_false y7] at c7
                  by_cases y8 : Y.data.toList = body8
                  · rw [decide_eq_true y8] at c8
                    have HN := Lib.hid (HG.out.2.2.1 (by rw [hv, if_pos (.inr y8)]))
                    have HST := Lib.hid HG.out.2.1
                    clear hv HG y7 y8
                    go_wp2_with fail
                    refine HBh.out.mono ?_
                    rintro e w2 ⟨rfl, hb2⟩
                    replace hbel := hbel.trans (hb2.mono hbel.size)
                    clear hb2
                    go_wp2_with fail
                    refine (HGr.out _).mono ?_
                    rintro e w3 ⟨rfl, hb3⟩
                    replace hbel := hbel.trans (hb3.mono hbel.size)
                    clear hb3
                    go_wp2_with fail
                    refine (HGr.out _).mono ?_
                    rintro e w4 ⟨rfl, hb4⟩
                    replace hbel := hbel.trans (hb4.mono hbel.size)
                    clear hb4
                    go_wp2
                    go_roundg ((T.extract k T.size).size)
                    case rel => exact ⟨_, n, x, y + 1, rfl, rfl, rfl, rfl, rfl, hbel, HN⟩
                    case measure => have := HST.out; have := HI.out.2.2.2; omega
                  · rw [decide_eq_false y8] at c8
                    have hx0 := HG.out.1 (by rw [hv, if_neg (fun e => e.elim y7 y8)])
                    clear hv HG y7 y8
                    go_wp2_with fail
                    refine HBh.out.mono ?_
                    rintro e w2 ⟨rfl, hb2⟩
                    replace hbel := hbel.trans (hb2.mono hbel.size)
                    clear hb2
                    go_wp2_with fail
                    refine (HGr.out _).mono ?_
                    rintro e w3 ⟨rfl, hb3⟩
                    replace hbel := hbel.trans (hb3.mono hbel.size)
                    clear hb3
                    go_wp2_with fail
                    refine (HGr.out _).mono ?_
                    rintro e w4 ⟨rfl, hb4⟩
                    replace hbel := hbel.trans (hb4.mono hbel.size)
                    clear hb4
                    have HX := Lib.hid hx0
                    clear hx0
                    go_wp2
                    go_ret2
                    exact ⟨0, false, rfl, by rw [if_neg (by decide)]; exact HX.out, hbel⟩
          · have r1 : decide ((k : Int) < (T.size : Int)) = false := decide_eq_false (by omega)
            have r2 : decide (k < T.size) = false := decide_eq_false hlt
            have hwd := wdAt_end hW.out hlt
            clear hW
            obtain ⟨P, hP⟩ : ∃ P, P = T.extract 0 k := ⟨_, rfl⟩
            obtain ⟨S', hS'⟩ : ∃ S', S' = T.extract k T.size := ⟨_, rfl⟩
            have hPd : P.data.toList = (wordW S.data.toList).1 := by
              rw [hP, ext_to]
              show T.data.toList.take k = _
              rw [← hwd.1, HT.out.1]
              rfl
            have hSd : S'.data.toList = (trimW S.data.toList).dropWhile (fun c => !blk c) := by
              have e : S'.data.toList = tl T k := by rw [hS']; exact ext_from T k
              rw [e, ← hwd.2, HT.out.1]
            obtain ⟨g1, g2⟩ := gvI_step HI.out.1 HI.out.2.1 HI.out.2.2.1
            obtain ⟨g3, g4, g5⟩ := g2 S' hSd
            rw [← hPd] at g1 g4 g5
            have hPs : P.size ≤ 1000000 := by rw [hP, ByteArray.size_extract]; have := HT.out.2.2; omega
            have HB1 := Lib.hid (behind_any P ⟨#[83, 73, 90, 69, 61]⟩ wr hPs (by decide))
            have z2 : (0 : Int) ≤ (k : Int) := by omega
            have z3 : (k : Int) ≤ (T.size : Int) := by omega
            have HG := Lib.hid (And.intro g1 (And.intro g3 (And.intro g4 (And.intro g5 hPs))))
            clear g1 g2 g3 g4 g5 hSd hwd hPd hPs
            subst hP
            subst hS'
            cases hbg : beginW sizeK (T.extract 0 k).data.toList with
            | some v =>
              have hv := optW_size hbg
              have hbh := HB1.out
              rw [show beginW (⟨#[83, 73, 90, 69, 61]⟩ : ByteArray).data.toList (T.extract 0 k).data.toList = some v from hbg] at hbh
              obtain ⟨V, hV, hVd, hVs⟩ := bt_ex v
              rw [behV_some, ← hV] at hbh
              have hvl : V.size ≤ 1000000 := by
                rw [hVs]
                have h9 := hbg
                unfold beginW at h9
                split at h9
                · injection h9 with h9
                  rw [← h9, List.length_drop]
                  have h8 : (T.extract 0 k).data.toList.length = (T.extract 0 k).size := rfl
                  have := HG.out.2.2.2.2
                  omega
                · cases h9
              have hps := fun w => parseR_any V 0 9223372036854775807 w hvl
              rw [hVd, numV_parse] at hps
              have HBh := Lib.hid hbh
              clear hV hVd hVs hvl hbh HB1 hbg
              cases hn : numV v with
              | none =>
                rw [hn] at hps hv
                have HPs := Lib.hid hps
                have hx0 := HG.out.1 (by rw [hv]; rfl)
                clear hps hv hn HG
                go_wp2_with fail
                refine HBh.out.mono ?_
                rintro e w2 ⟨rfl, hb2⟩
                replace hbel := hbel.trans (hb2.mono hbel.size)
                clear hb2
                go_wp2_with fail
                refine (HPs.out _).mono ?_
                rintro e w3 ⟨rfl, hb3⟩
                replace hbel := hbel.trans (hb3.mono hbel.size)
                clear hb3
                have HX := Lib.hid hx0
                clear hx0
                go_wp2
                go_ret2
                exact ⟨0, false, rfl, by rw [if_neg (by decide)]; exact HX.out, hbel⟩
              | some q =>
                rw [hn] at hps hv
                have HPs := Lib.hid hps
                have hq : q ≤ 9223372036854775807 := by
                  unfold numV at hn
                  split at hn
                  · rename_i h9
                    injection hn with hn
                    omega
                  · cases hn
                have HN := Lib.hid (HG.out.2.2.2.1 q hq (by rw [hv]; rfl))
                have hst := HG.out.2.1
                have z6 : IntKind.i64.wrap ((x : Int) + 1) = ((x + 1 : Nat) : Int) := w64 (by omega) (by have := HI.out.1.bx; have := HI.out.2.2.2; omega) (by have := HI.out.1.bx; have := HI.out.2.2.2; omega)
                have HST := Lib.hid hst
                clear hps hv hn HG hq hst
                go_wp2_with fail
                refine HBh.out.mono ?_
                rintro e w2 ⟨rfl, hb2⟩
                replace hbel := hbel.trans (hb2.mono hbel.size)
                clear hb2
                go_wp2_with fail
                refine (HPs.out _).mono ?_
                rintro e w3 ⟨rfl, hb3⟩
                replace hbel := hbel.trans (hb3.mono hbel.size)
                clear hb3
                go_wp2
                go_roundg ((T.extract k T.size).size)
                case rel => exact ⟨_, q, x + 1, y, rfl, rfl, rfl, rfl, rfl, hbel, HN⟩
                case measure => have := HST.out; have := HI.out.2.2.2; omega
            | none =>
              have hv := optW_not hbg
              have hbh := HB1.out
              rw [show beginW (⟨#[83, 73, 90, 69, 61]⟩ : ByteArray).data.toList (T.extract 0 k).data.toList = none from hbg] at hbh
              rw [behV_none] at hbh
              have HBh := Lib.hid hbh
              have hgr := fun w => rgreat_any (T.extract 0 k) w HG.out.2.2.2.2
              obtain ⟨Y, hY, hYd, -⟩ := bt_ex ((T.extract 0 k).data.toList.map up)
              rw [← hY] at hgr
              rw [← hYd] at hv
              have HGr := Lib.hid hgr
              have c7 : (Y.toList == [66, 79, 68, 89, 61, 55, 66, 73, 84]) = decide (Y.data.toList = body7) := cmp_lit Y _
              have c8 : (Y.toList == [66, 79, 68, 89, 61, 56, 66, 73, 84, 77, 73, 77, 69]) = decide (Y.data.toList = body8) := cmp_lit Y _
              have z6 : IntKind.i64.wrap ((y : Int) + 1) = ((y + 1 : Nat) : Int) := w64 (by omega) (by have := HI.out.1.by_; have := HI.out.2.2.2; omega) (by have := HI.out.1.by_; have := HI.out.2.2.2; omega)
              clear hbh hgr hY hYd HB1 hbg
              by_cases y7 : Y.data.toList = body7
              · rw [decide_eq_true y7] at c7
                have HN := Lib.hid (HG.out.2.2.1 (by rw [hv, if_pos (.inl y7)]))
                have HST := Lib.hid HG.out.2.1
                clear c8 hv HG y7
                go_wp2_with fail
                refine HBh.out.mono ?_
                rintro e w2 ⟨rfl, hb2⟩
                replace hbel := hbel.trans (hb2.mono hbel.size)
                clear hb2
                go_wp2_with fail
                refine (HGr.out _).mono ?_
                rintro e w3 ⟨rfl, hb3⟩
                replace hbel := hbel.trans (hb3.mono hbel.size)
                clear hb3
                go_wp2
                go_roundg ((T.extract k T.size).size)
                case rel => exact ⟨_, n, x, y + 1, rfl, rfl, rfl, rfl, rfl, hbel, HN⟩
                case measure => have := HST.out; have := HI.out.2.2.2; omega
              · rw [decide_eq_false y7] at c7
                by_cases y8 : Y.data.toList = body8
                · rw [decide_eq_true y8] at c8
                  have HN := Lib.hid (HG.out.2.2.1 (by rw [hv, if_pos (.inr y8)]))
                  have HST := Lib.hid HG.out.2.1
                  clear hv HG y7 y8
                  go_wp2_with fail
                  refine HBh.out.mono ?_
                  rintro e w2 ⟨rfl, hb2⟩
                  replace hbel := hbel.trans (hb2.mono hbel.size)
                  clear hb2
                  go_wp2_with fail
                  refine (HGr.out _).mono ?_
                  rintro e w3 ⟨rfl, hb3⟩
                  replace hbel := hbel.trans (hb3.mono hbel.size)
                  clear hb3
                  go_wp2_with fail
                  refine (HGr.out _).mono ?_
                  rintro e w4 ⟨rfl, hb4⟩
                  replace hbel := hbel.trans (hb4.mono hbel.size)
                  clear hb4
                  go_wp2
                  go_roundg ((T.extract k T.size).size)
                  case rel => exact ⟨_, n, x, y + 1, rfl, rfl, rfl, rfl, rfl, hbel, HN⟩
                  case measure => have := HST.out; have := HI.out.2.2.2; omega
                · rw [decide_eq_false y8] at c8
                  have hx0 := HG.out.1 (by rw [hv, if_neg (fun e => e.elim y7 y8)])
                  clear hv HG y7 y8
                  go_wp2_with fail
                  refine HBh.out.mono ?_
                  rintro e w2 ⟨rfl, hb2⟩
                  replace hbel := hbel.trans (hb2.mono hbel.size)
                  clear hb2
                  go_wp2_with fail
                  refine (HGr.out _).mono ?_
                  rintro e w3 ⟨rfl, hb3⟩
                  replace hbel := hbel.trans (hb3.mono hbel.size)
                  clear hb3
                  go_wp2_with fail
                  refine (HGr.out _).mono ?_
                  rintro e w4 ⟨rfl, hb4⟩
                  replace hbel := hbel.trans (hb4.mono hbel.size)
                  clear hb4
                  have HX := Lib.hid hx0
                  clear hx0
                  go_wp2
                  go_ret2
                  exact ⟨0, false, rfl, by rw [if_neg (by decide)]; exact HX.out, hbel⟩
end Go.Proofs.YtjoipgekmnnlpaaGreatDoor
