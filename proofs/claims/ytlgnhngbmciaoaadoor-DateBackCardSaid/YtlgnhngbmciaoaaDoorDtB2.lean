/- Walks: dates: Write, zones below zero. -/
import Derived.Test.YtlgnhngbmciaoaaDoorDtB
namespace Go.Proofs.YtlgnhngbmciaoaaDoor
open Go.RowKit Pk Dt C1
attribute [local go_sem ↓] Go.wp_at_zero Go.wp_at_succ

set_option maxHeartbeats 8000000 in
set_option maxRecDepth 100000 in
theorem write_neg (u z : Int) (w : World) (h : Rd7 w) (hy : partL u z 1 ≠ 0) (hz : z < 0) : Calls Tryd.prog 8 #[.agg #[.int .i64 u, .int .i64 z]] w fun e w' => e = .returned (.string ⟨(writeL u z).toArray⟩) ∧ Below w.heap.size w w' := by
  obtain ⟨Y, mn, d, hh, mi, s, wk, p1, p2, p3, p4, p5, p6, p7, y0, y1, m1, d1, h1, i1, s1, k1, z1, z2, hw⟩ := write_parts hy
  rw [hw]
  have hP1 := fun w => part1_any u z w
  have hP2 := fun w => part2_any u z w
  have hP3 := fun w => part3_any u z w
  have hP4 := fun w => part4_any u z w
  have hP5 := fun w => part5_any u z w
  have hP6 := fun w => part6_any u z w
  have hP7 := fun w => part7_any u z w
  rw [p1] at hP1
  rw [p2] at hP2
  rw [p3] at hP3
  rw [p4] at hP4
  rw [p5] at hP5
  rw [p6] at hP6
  rw [p7] at hP7
  obtain ⟨Dh, hDh, lDh, sDh⟩ := arr_ex1 (d2 hh)
  obtain ⟨Dm, hDm, lDm, sDm⟩ := arr_ex1 (d2 mi)
  obtain ⟨Ds, hDs, lDs, sDs⟩ := arr_ex1 (d2 s)
  obtain ⟨Dd, hDd, lDd, sDd⟩ := arr_ex1 (d2 d)
  obtain ⟨DY, hDY, lDY, sDY⟩ := arr_ex1 (d4 Y)
  have hTh := fun w ht => two_d2 hh w (by omega) ht Dh hDh
  have hTm := fun w ht => two_d2 mi w (by omega) ht Dm hDm
  have hTs := fun w ht => two_d2 s w (by omega) ht Ds hDs
  have hTd := fun w ht => two_d2 d w (by omega) ht Dd hDd
  have hPd : ∀ w, Tab w → Calls Tryd.prog 16 #[.int .i64 Y, .int .i64 4] w fun e w' => e = .returned (.string DY) ∧ Below w.heap.size w w' := fun w ht => by
    have := pad_any (Y : Int) 4 w (by omega) (by omega) ht
    rw [pad4_d4 (by omega), ← hDY] at this
    exact this
  have hG := fun w => great_wd wk w k1
  have hM := fun w => great_mo mn w m1
  have sG : (wdGB wk).size ≤ 10 := (show ∀ j, j < 7 → (wdGB j).size ≤ 10 by decide +kernel) wk k1
  have sM : (moGB mn).size ≤ 10 := (show ∀ j, j < 12 → (moGB j).size ≤ 10 by decide +kernel) mn m1
  have hck := clk_arr hh mi s
  rw [← hDh, ← hDm, ← hDs] at hck
  have hjd := fun Z : Int => @join_date wk d mn Y hh mi s Z
  generalize wdGB wk = GW at *
  generalize moGB mn = GM at *
  have qh : Dh.size ≤ 2 := by rw [sDh]; exact Nat.le_refl 2
  have qm : Dm.size ≤ 2 := by rw [sDm]; exact Nat.le_refl 2
  have qs : Ds.size ≤ 2 := by rw [sDs]; exact Nat.le_refl 2
  have qd : Dd.size ≤ 2 := by rw [sDd]; exact Nat.le_refl 2
  have qY : DY.size ≤ 4 := by rw [sDY]; exact Nat.le_refl 4
  have HP1 := Lib.hid hP1
  have HP2 := Lib.hid hP2
  have HP3 := Lib.hid hP3
  have HP4 := Lib.hid hP4
  have HP5 := Lib.hid hP5
  have HP6 := Lib.hid hP6
  have HP7 := Lib.hid hP7
  have HTh := Lib.hid hTh
  have HTm := Lib.hid hTm
  have HTs := Lib.hid hTs
  have HTd := Lib.hid hTd
  have HPd := Lib.hid hPd
  have HG := Lib.hid hG
  have HM := Lib.hid hM
  have HCK := Lib.hid hck
  have HJD := Lib.hid hjd
  have LDd := Lib.hid lDd
  have LDY := Lib.hid lDY
  have hk0 : (w.alloc (.cells #[.int .i64 u, .int .i64 z] 23)).heap[w.heap.size]? = some (.cells #[.int .i64 u, .int .i64 z] 23 (0, 0)) := heap_alloc_new w _
  have tb := (Below.refl w.heap.size w).alloc (Nat.le_refl _) (.cells #[.int .i64 u, .int .i64 z] 23)
  have HK : Wr7 w (w.alloc (.cells #[.int .i64 u, .int .i64 z] 23)) w.heap.size wk mn u z := ⟨tb, h.late tb, (Lib.cell_of_heap hk0 0).trans rfl, (Lib.cell_of_heap hk0 1).trans rfl, laterC tb (h.wd wk k1), laterC tb (h.mo mn m1)⟩
  have c0 := HK.c0
  have c1 := HK.c1
  have kw := HK.kw
  have km := HK.km
  have y2 : ((Y : Int) == 0) = false := beq_eq_false_iff_ne.2 (by omega)
  have k2 : (0 : Int) ≤ (wk : Int) := by omega
  have k3 : (wk : Int) < 7 := by omega
  have m2 : (0 : Int) ≤ (mn : Int) := by omega
  have m3 : (mn : Int) < 12 := by omega
  have m4 : IntKind.i64.wrap ((mn : Int) + 1 - 1) = mn := w64 (by omega) (by omega) (by omega)
  have m5 : (mn : Int) + 1 - 1 = mn := by omega
  have m6 : IntKind.i64.wrap (mn : Int) = mn := w64 rfl (by omega) (by omega)
  obtain ⟨Z1, hZ1, lZ1, sZ1⟩ := arr_ex1 (d2 (z.natAbs / 60))
  obtain ⟨Z2, hZ2, lZ2, sZ2⟩ := arr_ex1 (d2 (z.natAbs % 60))
  obtain ⟨A, hA⟩ : ∃ A : Int, A = ((z.natAbs / 60 : Nat) : Int) := ⟨_, rfl⟩
  obtain ⟨B, hB⟩ : ∃ B : Int, B = ((z.natAbs % 60 : Nat) : Int) := ⟨_, rfl⟩
  have hTa := fun w ht => two_d2 (z.natAbs / 60) w (by omega) ht Z1 hZ1
  have hTb := fun w ht => two_d2 (z.natAbs % 60) w (by omega) ht Z2 hZ2
  rw [← hA] at hTa
  rw [← hB] at hTb
  have hzz := zon_neg hz
  rw [← hZ1, ← hZ2] at hzz
  obtain ⟨NZ, hNZ⟩ : ∃ NZ : Int, NZ = -z := ⟨_, rfl⟩
  have e1 : -z = NZ := hNZ.symm
  have e2 : 0 ≤ NZ ∧ NZ ≤ 1439 := by omega
  have e0 : IntKind.i64.wrap NZ = NZ := w64 rfl (by omega) (by omega)
  have t1 : NZ.tdiv 60 = A := by rw [Int.tdiv_eq_ediv_of_nonneg e2.1]; omega
  have t2 : NZ.tmod 60 = B := by rw [Int.tmod_eq_emod_of_nonneg e2.1]; omega
  have t3 : NZ / 60 = A := by omega
  have t4 : NZ % 60 = B := by omega
  obtain ⟨A0, hA0⟩ : ∃ A0 : Int, A0 = z.tdiv 60 := ⟨_, rfl⟩
  obtain ⟨B0, hB0⟩ : ∃ B0 : Int, B0 = z.tmod 60 := ⟨_, rfl⟩
  have t5 : z.tdiv 60 = A0 := hA0.symm
  have t6 : z.tmod 60 = B0 := hB0.symm
  have a1 : -1500 ≤ A0 ∧ A0 ≤ 1500 := by
    have := Int.tmod_add_mul_tdiv z 60
    have := Int.tmod_lt_of_pos z (show (0 : Int) < 60 by decide)
    have := Int.lt_tmod_of_pos z (show (0 : Int) < 60 by decide)
    omega
  have b1 : -60 ≤ B0 ∧ B0 ≤ 60 := by
    have := Int.tmod_lt_of_pos z (show (0 : Int) < 60 by decide)
    have := Int.lt_tmod_of_pos z (show (0 : Int) < 60 by decide)
    omega
  have v3 : IntKind.i64.wrap A0 = A0 := w64 rfl (by omega) (by omega)
  have v4 : IntKind.i64.wrap B0 = B0 := w64 rfl (by omega) (by omega)
  obtain ⟨X1, hX1, lX1, sX1⟩ := arr_ex1 (padL A0 2)
  obtain ⟨X2, hX2, lX2, sX2⟩ := arr_ex1 (padL B0 2)
  have hTc := fun w ht => two_any A0 w (by omega) (by omega) ht
  have hTd2 := fun w ht => two_any B0 w (by omega) (by omega) ht
  rw [← hX1] at hTc
  rw [← hX2] at hTd2
  have q3 : X1.size ≤ 120 := by rw [sX1]; exact padL_le (by omega) (by omega) 2 (by decide)
  have q4 : X2.size ≤ 120 := by rw [sX2]; exact padL_le (by omega) (by omega) 2 (by decide)
  have HTc := Lib.hid hTc
  have HTd2 := Lib.hid hTd2
  have n8 : ¬ (9223372036854775807 < 1 + X1.size) := by omega
  have n9 : ¬ (9223372036854775807 < 1 + X1.size + X2.size) := by omega
  clear hTc hTd2 hX1 hX2 lX1 lX2 sX1 sX2 hA0 hB0 hNZ
  have a0 : 0 ≤ A ∧ A ≤ 100 := by omega
  have b0 : 0 ≤ B ∧ B ≤ 100 := by omega
  have v1 : IntKind.i64.wrap A = A := w64 rfl (by omega) (by omega)
  have v2 : IntKind.i64.wrap B = B := w64 rfl (by omega) (by omega)
  have q1 : Z1.size ≤ 2 := by rw [sZ1]; exact Nat.le_refl 2
  have q2 : Z2.size ≤ 2 := by rw [sZ2]; exact Nat.le_refl 2
  have qz : (⟨#[45]⟩ ++ Z1 ++ Z2 : ByteArray).size ≤ 300 := by
    have e1 : (⟨#[45]⟩ : ByteArray).size = 1 := rfl
    simp only [ByteArray.size_append, e1]
    omega
  have HTa := Lib.hid hTa
  have HTb := Lib.hid hTb
  have HZZ := Lib.hid hzz
  have zz : decide (z < 0) = true := decide_eq_true hz
  have n1 : ¬ (9223372036854775807 < 1 + Z1.size) := by omega
  have n2 : ¬ (9223372036854775807 < 1 + Z1.size + Z2.size) := by omega
  have n3 : ¬ (9223372036854775807 < Dh.size + 1) := by omega
  have n4 : ¬ (9223372036854775807 < Dh.size + 1 + Dm.size) := by omega
  have n5 : ¬ (9223372036854775807 < Dh.size + 1 + Dm.size + 1) := by omega
  have n6 : ¬ (9223372036854775807 < Dh.size + 1 + Dm.size + 1 + Ds.size) := by omega
  have n7 : ¬ (9223372036854775807 < GW.size + 1) := by omega
  have hJ : ∀ (g : Nat) (w : World) (c0 : w.cell? ⟨g, 0, none⟩ = some (.string (GW ++ ⟨#[44]⟩))) (c1 : w.cell? ⟨g, 1, none⟩ = some (.string Dd)) (c2 : w.cell? ⟨g, 2, none⟩ = some (.string GM)) (c3 : w.cell? ⟨g, 3, none⟩ = some (.string DY)) (c4 : w.cell? ⟨g, 4, none⟩ = some (.string (Dh ++ ⟨#[58]⟩ ++ Dm ++ ⟨#[58]⟩ ++ Ds))) (c5 : w.cell? ⟨g, 5, none⟩ = some (.string (⟨#[45]⟩ ++ Z1 ++ Z2))),
      Calls Tryd.prog 17 #[.slice (some ⟨g, 0, none⟩) 6 6, .string ⟨#[32]⟩] w fun e w' => e = .returned (.string ⟨(dateW wk d (mn + 1) Y hh mi s z).toArray⟩) ∧ Below w.heap.size w w' := fun g w c0 c1 c2 c3 c4 c5 => by
    have hq := join_w GW Dd GM DY Dh Dm Ds (⟨#[45]⟩ ++ Z1 ++ Z2) sG qd sM qY qh qm qs qz g w c0 c1 c2 c3 c4 c5
    have eq : ((GW ++ ⟨#[44]⟩ : ByteArray).data.toList ++ 32 :: (Dd.data.toList ++ 32 :: (GM.data.toList ++ 32 :: (DY.data.toList ++ 32 :: ((Dh ++ ⟨#[58]⟩ ++ Dm ++ ⟨#[58]⟩ ++ Ds : ByteArray).data.toList ++ 32 :: ((⟨#[45]⟩ ++ Z1 ++ Z2) : ByteArray).data.toList))))) = dateW wk d (mn + 1) Y hh mi s z := by
      rw [← HJD.out z, HCK.out, HZZ.out, LDd.out, LDY.out]
    rw [eq] at hq
    exact hq
  generalize dateW wk d (mn + 1) Y hh mi s z = L at hJ ⊢
  have HJ := Lib.hid hJ
  clear qz hJ
  clear hTa hTb hzz hZ1 hZ2 lZ1 lZ2 sZ1 sZ2 hA hB
  clear hk0 tb hP1 hP2 hP3 hP4 hP5 hP6 hP7 hTh hTm hTs hTd hPd hG hM hck hjd hDh hDm hDs hDd hDY lDh lDm lDs lDd lDY sDh sDm sDs sDd sDY p1 p2 p3 p4 p5 p6 p7 hw hy h
  go_enter Tryd.func8, Tryd.ntmps8
  go_wp2_with (first
    | (go_at_call 11; (with_reducible refine (HP1.out _).mono ?_); rintro e w1 ⟨rfl, hb1⟩; have HK : Wr7 w w1 w.heap.size wk mn u z := (by first | exact HK.later hb1 | exact HK.drew.later hb1 | exact (HK.alloc _).later hb1 | exact (HK.alloc _).drew.later hb1 | exact (HK.drew.alloc _).later hb1); have c0 := HK.c0; have c1 := HK.c1; have kw := HK.kw; have km := HK.km)
    | fail)
  go_region_held3 (fun W => W.cell? ⟨w.heap.size, 0, none⟩ = some (.int .i64 u) ∧ W.cell? ⟨w.heap.size, 1, none⟩ = some (.int .i64 z) ∧ W.cell? ⟨0, wk, none⟩ = some (.string (wdB wk)) ∧ W.cell? ⟨1, mn, none⟩ = some (.string (moB mn))) (first | exact ⟨by assumption, by assumption, by assumption, by assumption⟩ | exact ⟨HK.drew.c0, HK.drew.c1, HK.drew.kw, HK.drew.km⟩ | exact ⟨(HK.alloc _).c0, (HK.alloc _).c1, (HK.alloc _).kw, (HK.alloc _).km⟩ | exact ⟨(HK.drew.alloc _).c0, (HK.drew.alloc _).c1, (HK.drew.alloc _).kw, (HK.drew.alloc _).km⟩ | fail) (first
    | (go_at_call 15; (with_reducible refine (HTc.out _ (by first | exact HK.rd.tab | exact HK.drew.rd.tab)).mono ?_); rintro e w2 ⟨rfl, hb2⟩; have HK : Wr7 w w2 w.heap.size wk mn u z := (by first | exact HK.later hb2 | exact HK.drew.later hb2 | exact (HK.alloc _).later hb2 | exact (HK.alloc _).drew.later hb2 | exact (HK.drew.alloc _).later hb2); have c0 := HK.c0; have c1 := HK.c1; have kw := HK.kw; have km := HK.km)
    | (go_at_call 15; (with_reducible refine (HTd2.out _ (by first | exact HK.rd.tab | exact HK.drew.rd.tab)).mono ?_); rintro e w3 ⟨rfl, hb3⟩; have HK : Wr7 w w3 w.heap.size wk mn u z := (by first | exact HK.later hb3 | exact HK.drew.later hb3 | exact (HK.alloc _).later hb3 | exact (HK.alloc _).drew.later hb3 | exact (HK.drew.alloc _).later hb3); have c0 := HK.c0; have c1 := HK.c1; have kw := HK.kw; have km := HK.km)
    | fail)
  go_wp2
  go_region_held3 (fun W => W.cell? ⟨w.heap.size, 0, none⟩ = some (.int .i64 u) ∧ W.cell? ⟨w.heap.size, 1, none⟩ = some (.int .i64 z) ∧ W.cell? ⟨0, wk, none⟩ = some (.string (wdB wk)) ∧ W.cell? ⟨1, mn, none⟩ = some (.string (moB mn))) (first | exact ⟨by assumption, by assumption, by assumption, by assumption⟩ | exact ⟨HK.drew.c0, HK.drew.c1, HK.drew.kw, HK.drew.km⟩ | exact ⟨(HK.alloc _).c0, (HK.alloc _).c1, (HK.alloc _).kw, (HK.alloc _).km⟩ | exact ⟨(HK.drew.alloc _).c0, (HK.drew.alloc _).c1, (HK.drew.alloc _).kw, (HK.drew.alloc _).km⟩ | fail) (first
    | (go_at_call 15; (with_reducible refine (HTa.out _ (by first | exact HK.rd.tab | exact HK.drew.rd.tab)).mono ?_); rintro e w2 ⟨rfl, hb2⟩; have HK : Wr7 w w2 w.heap.size wk mn u z := (by first | exact HK.later hb2 | exact HK.drew.later hb2 | exact (HK.alloc _).later hb2 | exact (HK.alloc _).drew.later hb2 | exact (HK.drew.alloc _).later hb2); have c0 := HK.c0; have c1 := HK.c1; have kw := HK.kw; have km := HK.km)
    | (go_at_call 15; (with_reducible refine (HTb.out _ (by first | exact HK.rd.tab | exact HK.drew.rd.tab)).mono ?_); rintro e w3 ⟨rfl, hb3⟩; have HK : Wr7 w w3 w.heap.size wk mn u z := (by first | exact HK.later hb3 | exact HK.drew.later hb3 | exact (HK.alloc _).later hb3 | exact (HK.alloc _).drew.later hb3 | exact (HK.drew.alloc _).later hb3); have c0 := HK.c0; have c1 := HK.c1; have kw := HK.kw; have km := HK.km)
    | fail)
  go_wp2
  go_region_held3 (fun W => W.cell? ⟨w.heap.size, 0, none⟩ = some (.int .i64 u) ∧ W.cell? ⟨w.heap.size, 1, none⟩ = some (.int .i64 z) ∧ W.cell? ⟨0, wk, none⟩ = some (.string (wdB wk)) ∧ W.cell? ⟨1, mn, none⟩ = some (.string (moB mn))) (first | exact ⟨by assumption, by assumption, by assumption, by assumption⟩ | exact ⟨HK.drew.c0, HK.drew.c1, HK.drew.kw, HK.drew.km⟩ | exact ⟨(HK.alloc _).c0, (HK.alloc _).c1, (HK.alloc _).kw, (HK.alloc _).km⟩ | exact ⟨(HK.drew.alloc _).c0, (HK.drew.alloc _).c1, (HK.drew.alloc _).kw, (HK.drew.alloc _).km⟩ | fail) (first
    | (go_at_call 11; (with_reducible refine (HP4.out _).mono ?_); rintro e w4 ⟨rfl, hb4⟩; have HK : Wr7 w w4 w.heap.size wk mn u z := (by first | exact HK.later hb4 | exact HK.drew.later hb4 | exact (HK.alloc _).later hb4 | exact (HK.alloc _).drew.later hb4 | exact (HK.drew.alloc _).later hb4); have c0 := HK.c0; have c1 := HK.c1; have kw := HK.kw; have km := HK.km)
    | (go_at_call 15; (with_reducible refine (HTh.out _ (by first | exact HK.rd.tab | exact HK.drew.rd.tab)).mono ?_); rintro e w5 ⟨rfl, hb5⟩; have HK : Wr7 w w5 w.heap.size wk mn u z := (by first | exact HK.later hb5 | exact HK.drew.later hb5 | exact (HK.alloc _).later hb5 | exact (HK.alloc _).drew.later hb5 | exact (HK.drew.alloc _).later hb5); have c0 := HK.c0; have c1 := HK.c1; have kw := HK.kw; have km := HK.km)
    | (go_at_call 11; (with_reducible refine (HP5.out _).mono ?_); rintro e w6 ⟨rfl, hb6⟩; have HK : Wr7 w w6 w.heap.size wk mn u z := (by first | exact HK.later hb6 | exact HK.drew.later hb6 | exact (HK.alloc _).later hb6 | exact (HK.alloc _).drew.later hb6 | exact (HK.drew.alloc _).later hb6); have c0 := HK.c0; have c1 := HK.c1; have kw := HK.kw; have km := HK.km)
    | (go_at_call 15; (with_reducible refine (HTm.out _ (by first | exact HK.rd.tab | exact HK.drew.rd.tab)).mono ?_); rintro e w7 ⟨rfl, hb7⟩; have HK : Wr7 w w7 w.heap.size wk mn u z := (by first | exact HK.later hb7 | exact HK.drew.later hb7 | exact (HK.alloc _).later hb7 | exact (HK.alloc _).drew.later hb7 | exact (HK.drew.alloc _).later hb7); have c0 := HK.c0; have c1 := HK.c1; have kw := HK.kw; have km := HK.km)
    | (go_at_call 11; (with_reducible refine (HP6.out _).mono ?_); rintro e w8 ⟨rfl, hb8⟩; have HK : Wr7 w w8 w.heap.size wk mn u z := (by first | exact HK.later hb8 | exact HK.drew.later hb8 | exact (HK.alloc _).later hb8 | exact (HK.alloc _).drew.later hb8 | exact (HK.drew.alloc _).later hb8); have c0 := HK.c0; have c1 := HK.c1; have kw := HK.kw; have km := HK.km)
    | (go_at_call 15; (with_reducible refine (HTs.out _ (by first | exact HK.rd.tab | exact HK.drew.rd.tab)).mono ?_); rintro e w9 ⟨rfl, hb9⟩; have HK : Wr7 w w9 w.heap.size wk mn u z := (by first | exact HK.later hb9 | exact HK.drew.later hb9 | exact (HK.alloc _).later hb9 | exact (HK.alloc _).drew.later hb9 | exact (HK.drew.alloc _).later hb9); have c0 := HK.c0; have c1 := HK.c1; have kw := HK.kw; have km := HK.km)
    | fail)
  go_wp2
  go_region_held3 (fun W => W.cell? ⟨w.heap.size, 0, none⟩ = some (.int .i64 u) ∧ W.cell? ⟨w.heap.size, 1, none⟩ = some (.int .i64 z) ∧ W.cell? ⟨0, wk, none⟩ = some (.string (wdB wk)) ∧ W.cell? ⟨1, mn, none⟩ = some (.string (moB mn))) (first | exact ⟨by assumption, by assumption, by assumption, by assumption⟩ | exact ⟨HK.drew.c0, HK.drew.c1, HK.drew.kw, HK.drew.km⟩ | exact ⟨(HK.alloc _).c0, (HK.alloc _).c1, (HK.alloc _).kw, (HK.alloc _).km⟩ | exact ⟨(HK.drew.alloc _).c0, (HK.drew.alloc _).c1, (HK.drew.alloc _).kw, (HK.drew.alloc _).km⟩ | fail) (first
    | (go_at_call 11; (with_reducible refine (HP7.out _).mono ?_); rintro e w10 ⟨rfl, hb10⟩; have HK : Wr7 w w10 w.heap.size wk mn u z := (by first | exact HK.later hb10 | exact HK.drew.later hb10 | exact (HK.alloc _).later hb10 | exact (HK.alloc _).drew.later hb10 | exact (HK.drew.alloc _).later hb10); have c0 := HK.c0; have c1 := HK.c1; have kw := HK.kw; have km := HK.km)
    | (go_at_call 18; (with_reducible refine (HG.out _).mono ?_); rintro e w11 ⟨rfl, hb11⟩; have HK : Wr7 w w11 w.heap.size wk mn u z := (by first | exact HK.later hb11 | exact HK.drew.later hb11 | exact (HK.alloc _).later hb11 | exact (HK.alloc _).drew.later hb11 | exact (HK.drew.alloc _).later hb11); have c0 := HK.c0; have c1 := HK.c1; have kw := HK.kw; have km := HK.km)
    | (go_at_call 11; (with_reducible refine (HP3.out _).mono ?_); rintro e w12 ⟨rfl, hb12⟩; have HK : Wr7 w w12 w.heap.size wk mn u z := (by first | exact HK.later hb12 | exact HK.drew.later hb12 | exact (HK.alloc _).later hb12 | exact (HK.alloc _).drew.later hb12 | exact (HK.drew.alloc _).later hb12); have c0 := HK.c0; have c1 := HK.c1; have kw := HK.kw; have km := HK.km)
    | (go_at_call 15; (with_reducible refine (HTd.out _ (by first | exact HK.rd.tab | exact HK.drew.rd.tab)).mono ?_); rintro e w13 ⟨rfl, hb13⟩; have HK : Wr7 w w13 w.heap.size wk mn u z := (by first | exact HK.later hb13 | exact HK.drew.later hb13 | exact (HK.alloc _).later hb13 | exact (HK.alloc _).drew.later hb13 | exact (HK.drew.alloc _).later hb13); have c0 := HK.c0; have c1 := HK.c1; have kw := HK.kw; have km := HK.km)
    | (go_at_call 11; (with_reducible refine (HP2.out _).mono ?_); rintro e w14 ⟨rfl, hb14⟩; have HK : Wr7 w w14 w.heap.size wk mn u z := (by first | exact HK.later hb14 | exact HK.drew.later hb14 | exact (HK.alloc _).later hb14 | exact (HK.alloc _).drew.later hb14 | exact (HK.drew.alloc _).later hb14); have c0 := HK.c0; have c1 := HK.c1; have kw := HK.kw; have km := HK.km)
    | (go_at_call 18; (with_reducible refine (HM.out _).mono ?_); rintro e w15 ⟨rfl, hb15⟩; have HK : Wr7 w w15 w.heap.size wk mn u z := (by first | exact HK.later hb15 | exact HK.drew.later hb15 | exact (HK.alloc _).later hb15 | exact (HK.alloc _).drew.later hb15 | exact (HK.drew.alloc _).later hb15); have c0 := HK.c0; have c1 := HK.c1; have kw := HK.kw; have km := HK.km)
    | (go_at_call 16; (with_reducible refine (HPd.out _ (by first | exact HK.rd.tab | exact HK.drew.rd.tab)).mono ?_); rintro e w16 ⟨rfl, hb16⟩; have HK : Wr7 w w16 w.heap.size wk mn u z := (by first | exact HK.later hb16 | exact HK.drew.later hb16 | exact (HK.alloc _).later hb16 | exact (HK.alloc _).drew.later hb16 | exact (HK.drew.alloc _).later hb16); have c0 := HK.c0; have c1 := HK.c1; have kw := HK.kw; have km := HK.km)
    | (go_at_call 17; (with_reducible refine (HJ.out _ _ (by simp) (by simp) (by simp) (by simp) (by simp) (by simp)).mono ?_); rintro e w17 ⟨rfl, hb17⟩; have HK : Wr7 w w17 w.heap.size wk mn u z := (by first | exact HK.later hb17 | exact HK.drew.later hb17 | exact (HK.alloc _).later hb17 | exact (HK.alloc _).drew.later hb17 | exact (HK.drew.alloc _).later hb17); have c0 := HK.c0; have c1 := HK.c1; have kw := HK.kw; have km := HK.km)
    | fail)
  go_wp2
  go_ret
  exact ⟨rfl, HK.bel⟩
theorem write_any (u z : Int) (w : World) (h : Rd7 w) : Calls Tryd.prog 8 #[.agg #[.int .i64 u, .int .i64 z]] w fun e w' => e = .returned (.string ⟨(writeL u z).toArray⟩) ∧ Below w.heap.size w w' := by
  by_cases hy : partL u z 1 = 0
  · have e : writeL u z = [] := by unfold writeL; rw [if_pos hy]
    rw [e]
    exact write_none u z w hy
  · by_cases hz : 0 ≤ z
    · exact write_pos u z w h hy hz
    · exact write_neg u z w h hy (by omega)
end Go.Proofs.YtlgnhngbmciaoaaDoor
