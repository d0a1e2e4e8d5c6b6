/- Walks: chapter 09's laws: HeaderGoes. -/
import Derived.Test.YthchklbnkojkgaaGreatDoorSame9
import Derived.Test.YthchklbnkojkgaaGreatDoorHdG
namespace Go.Proofs.YthchklbnkojkgaaGreatDoor
open Go.RowKit Pk Hd

theorem goesB_head (s : ByteArray) (h : 0 < s.size) : goesB s.data.toList = blk s[0] := by rw [data_cons s h]; rfl
theorem goesB_nil {s : ByteArray} (h : ¬ 0 < s.size) : goesB s.data.toList = false := by
  have : s.data.toList = [] := List.eq_nil_of_length_eq_zero (by rw [dataL]; omega)
  rw [this]; rfl
theorem no10_of {s : ByteArray} (h : ∀ j (hj : j < s.size), s[j] ≠ 10) : ∀ c ∈ s.data.toList, c ≠ 10 := fun c hc => by
  obtain ⟨j, hj, e⟩ := List.mem_iff_getElem.1 hc
  have : s[j]'hj = c := e
  rw [← this]; exact h j hj
theorem cat_data (P more behind : ByteArray) : (P ++ ⟨#[32]⟩ ++ more ++ ⟨#[13, 10]⟩ : ByteArray) = toB (P.data.toList ++ ([32] ++ more.data.toList ++ [13, 10])) ∧ (P ++ ⟨#[32]⟩ ++ more ++ ⟨#[13, 10]⟩ ++ behind : ByteArray).data.toList = P.data.toList ++ ([32] ++ more.data.toList ++ [13, 10]) ++ behind.data.toList := by
  have e : (P ++ ⟨#[32]⟩ ++ more ++ ⟨#[13, 10]⟩ : ByteArray).data.toList = P.data.toList ++ ([32] ++ more.data.toList ++ [13, 10]) := by
    simp only [ByteArray.data_append, Array.toList_append]
    simp
  refine ⟨?_, ?_⟩
  · rw [← e, toB_back]
  · rw [ByteArray.data_append, Array.toList_append, e]
set_option maxHeartbeats 8000000 in
set_option maxRecDepth 100000 in
theorem goes_of (s v m b : ByteArray) (w : World) (h : Rt w) : Calls Tryz.prog 4 #[.string s, .string v, .string m, .string b] w (Truth w) := by
  have hS := small9_any w h
  have HS := Lib.hid hS
  have HR := Lib.hid h
  clear hS h
  have HRt := trivial
  by_cases a1 : s.size ≤ 100
  · have q1 : decide ((100 : Int) < (s.size : Int)) = false := decide_eq_false (by omega)
    have p1 : decide (100 < s.size) = false := decide_eq_false (by omega)
    by_cases a2 : v.size ≤ 1000
    · have q2 : decide ((1000 : Int) < (v.size : Int)) = false := decide_eq_false (by omega)
      have p2 : decide (1000 < v.size) = false := decide_eq_false (by omega)
      by_cases a3 : m.size ≤ 1000
      · have q3 : decide ((1000 : Int) < (m.size : Int)) = false := decide_eq_false (by omega)
        have p3 : decide (1000 < m.size) = false := decide_eq_false (by omega)
        by_cases a4 : b.size ≤ 1000
        · have q4 : decide ((1000 : Int) < (b.size : Int)) = false := decide_eq_false (by omega)
          have p4 : decide (1000 < b.size) = false := decide_eq_false (by omega)
          have hRt := fun w => right_any s w (by omega)
          cases hr : rightB s.data.toList with
          | false =>
            rw [hr] at hRt
            have HRt := Lib.hid hRt
            clear hRt hr
            go_enter Tryz.func4, Tryz.ntmps4
            go_wp2_with (first
              | (go_at_call 8; (with_reducible refine HS.out.mono ?_); rintro e w1 ⟨rfl, hb1⟩)
              | (go_at_call 10; (with_reducible refine (HRt.out _).mono ?_); rintro e w1 ⟨rfl, rfl⟩))
            go_ret
            exact ⟨rfl, hb1⟩
          | true =>
            rw [hr] at hRt
            have HRt := Lib.hid hRt
            have hnm := right_named.1 hr
            have hBl := Lib.hid rblank_any
            have HN := Lib.hid hnm
            have tb := Below.refl w.heap.size w
            clear hRt hr hnm
            go_enter Tryz.func4, Tryz.ntmps4
            go_wp2_with (first
              | (go_at_call 8; (with_reducible refine HS.out.mono ?_); rintro e w1 ⟨rfl, hb1⟩; have tb := tb.trans hb1)
              | (go_at_call 10; (with_reducible refine (HRt.out _).mono ?_); rintro e w1 ⟨rfl, rfl⟩))
            go_loop [10] (fun iv => ∃ i : Nat, iv = .int .i64 i ∧ i ≤ m.size ∧ Hid (∀ j (hj : j < m.size), j < i → m[j] ≠ 10)) (fun iv => m.size - (intOf iv).toNat)
            case atStart => exact ⟨0, by first | rfl | trivial, by omega, show ∀ j (hj : j < m.size), j < 0 → m[j] ≠ 10 from fun j _ hj => by omega⟩
            case round =>
              obtain ⟨i, rfl, hi, hrel⟩ := hrel
              by_cases hlt : i < m.size
              · have qc : ((m[i].toNat : Int) == 10) = decide (m[i] = 10) := u8k 10 (by decide)
                by_cases hc : m[i] = 10
                · rw [decide_eq_true hc] at qc
                  clear hc hrel
                  go_wp2
                  go_ret
                  exact ⟨rfl, tb⟩
                · rw [decide_eq_false hc] at qc
                  have hd : Hid (∀ j (hj : j < m.size), j < i + 1 → m[j] ≠ 10) := fun j hj hji => by
                    by_cases e : j = i
                    · subst e; exact hc
                    · exact hrel.out j hj (by omega)
                  clear hc hrel
                  go_wp2
                  go_round
                  case rel => exact ⟨i + 1, by go_num, by omega, hd⟩
                  case measure => simp [intOf]; omega
              · have hno := no10_of (s := m) (fun j hj => hrel.out j hj (by omega))
                clear hrel
                by_cases hg : 0 < b.size ∧ goesB b.data.toList = true
                · obtain ⟨g0, g1⟩ := hg
                  rw [goesB_head b g0] at g1
                  have hbl := fun w => hBl.out b[0] w
                  rw [g1] at hbl
                  have HBL := Lib.hid hbl
                  have hne := neS g0
                  clear hbl
                  go_wp2_with (go_at_call 19; (with_reducible refine (HBL.out _).mono ?_); rintro e w1 ⟨rfl, rfl⟩)
                  go_ret
                  exact ⟨rfl, tb⟩
                · have hgo : goesB b.data.toList = false := by
                    by_cases g0 : 0 < b.size
                    · cases hq : goesB b.data.toList with
                      | false => rfl
                      | true => exact absurd ⟨g0, hq⟩ hg
                    · exact goesB_nil g0
                  obtain ⟨f, f1, f2, f3, f4⟩ := goes_shape v.data.toList HN.out hno hgo
                  have hpl := put_le s.data.toList v.data.toList
                  rw [dataL, dataL] at hpl
                  obtain ⟨P, hPe, hPd, hPs⟩ := arrE (putL s.data.toList v.data.toList)
                  have hP := fun w => put_any s v w (by omega) (by omega)
                  have hP2 : toB (putL s.data.toList v.data.toList) = P := hPe.symm
                  rw [hP2] at hP
                  obtain ⟨r1, r2⟩ := cat_data P m b
                  rw [← hPd] at f1 f2 f3
                  rw [← r1] at f3
                  rw [← r2] at f1 f2
                  rw [toB_back] at f4
                  rw [dataL, dataL] at f2
                  clear r1 r2 hPe hPd hP2 hno hg
                  have g1 : (P ++ ⟨#[32]⟩ : ByteArray).size = P.size + 1 := app_size _ _
                  generalize hq1 : (P ++ ⟨#[32]⟩ : ByteArray) = Q1 at *
                  have g2 : (Q1 ++ m : ByteArray).size = Q1.size + m.size := app_size _ _
                  generalize hq2 : (Q1 ++ m : ByteArray) = Q2 at *
                  have g3 : (Q2 ++ ⟨#[13, 10]⟩ : ByteArray).size = Q2.size + 2 := app_size _ _
                  generalize hq3 : (Q2 ++ ⟨#[13, 10]⟩ : ByteArray) = Q3 at *
                  have g4 : (Q3 ++ b : ByteArray).size = Q3.size + b.size := app_size _ _
                  generalize hq4 : (Q3 ++ b : ByteArray) = Q4 at *
                  have hA := fun w' hr => parse_rt Q4 w' hr (by omega)
                  have hB := fun w' hr => parse_rt b w' hr (by omega)
                  unfold ParIs at hA hB
                  rw [f1, f2] at hA
                  have hbl := par_length b.data.toList
                  rw [dataL] at hbl
                  have hel := endS_le b.data.toList
                  rw [dataL] at hel
                  have hSM := fun va vb w' hA hB => same9_view va vb (parS b.data.toList) w' hA hB (by omega)
                  generalize parS b.data.toList = mb at hA hB hbl hSM
                  generalize endS b.data.toList = nb at hA hB hel
                  obtain ⟨x0, x1, x2, x3⟩ := f
                  have f3 : x2 = Q3 := f3
                  have f4 : x0 = s := f4
                  subst f3 f4
                  have HP := Lib.hid hP
                  have HA := Lib.hid hA
                  have HB := Lib.hid hB
                  have HSM := Lib.hid hSM
                  clear hP hA hB hSM f1 f2
                  by_cases g0 : 0 < b.size
                  · rw [goesB_head b g0] at hgo
                    have hbk := fun w => hBl.out b[0] w
                    rw [hgo] at hbk
                    have HBL := Lib.hid hbk
                    have hne := neS g0
                    clear hbk hgo
                    go_upto_region 16 with (first
                      | (go_at_call 19; (with_reducible refine (HBL.out _).mono ?_); rintro e w1 ⟨rfl, rfl⟩)
                      | (go_at_call 11; (with_reducible refine (HP.out _).mono ?_); rintro e w2 ⟨rfl, hb2⟩; have tb := tb.trans (hb2.mono tb.size))
                      | (go_at_call 12; (with_reducible refine (HA.out _ (HR.out.later tb)).mono ?_); rintro e w3 ⟨v3, rfl, hown3, hb3⟩; have tb := tb.trans (hb3.mono tb.size); have hs3 := ownsG.sees hown3 (Nat.le_refl _); obtain ⟨g3, c3, rfl, hc3, hg3, hcell3⟩ := sees_slice hs3 (mb.length + 1) rfl (by omega))
                      | (go_at_call 12; (with_reducible refine (HB.out _ (HR.out.later tb)).mono ?_); rintro e w4 ⟨v4, rfl, hown4, hb4⟩; have tb := tb.trans (hb4.mono tb.size); have hs4 := ownsG.sees hown4 (Nat.le_refl _); have hs3 := sees_later hs3 hb4; obtain ⟨p4, c4, rfl, hc4, -⟩ := hs4.form; obtain ⟨k0, k1, k2, k3⟩ := hcell3 0 (by simp); have k0 := cell_later hb4 k0; have k2 := cell_later hb4 k2; have d0 : w4.cell? ⟨g3, 0, none⟩ = some (.string x0) := k0; have d2 : w4.cell? ⟨g3, 2, none⟩ = some (.string x2) := k2; clear k0 k1 k2 k3 hcell3))
                    have hv3 := view_tail hs3 rfl
                    have hv4 := view_of hs4
                    have z1 : (1 : Int) ≤ ((mb.length + 1 : Nat) : Int) := by omega
                    have z2 : ((mb.length + 1 : Nat) : Int) ≤ (c3 : Int) := by omega
                    by_cases hc1 : c3 = 1
                    · subst hc1
                      have hmb : mb = [] := List.eq_nil_of_length_eq_zero (by omega)
                      have hv5 : viewF w4 (.slice (some ⟨g3, 0, none⟩) 0 0) mb := ⟨_, _, by rw [hmb]; rfl, by rw [hmb]; exact Nat.le_refl _, .inl hmb⟩
                      clear hv3 hmb
                      go_wp2_with (first
                        | (go_at_call 20; (with_reducible refine (HSM.out _ _ _ hv5 hv4).mono ?_); rintro e w5 ⟨rfl, hb5⟩; have tb := tb.trans (hb5.mono tb.size)))
                      go_ret
                      exact ⟨rfl, tb⟩
                    · rw [if_neg hc1] at hv3
                      have hv5 : viewF w4 (.slice (some ⟨g3, 4, none⟩) mb.length (c3 - 1)) mb := by
                        have e : (Option.map (·.add 4) (some (⟨g3, 0, none⟩ : Addr))) = some ⟨g3, 4, none⟩ := by
                          rw [Option.map_some]; unfold Addr.add; simp
                        rw [e] at hv3
                        exact hv3
                      clear hv3
                      go_wp2_with (first
                        | (go_at_call 20; (with_reducible refine (HSM.out _ _ _ hv5 hv4).mono ?_); rintro e w5 ⟨rfl, hb5⟩; have tb := tb.trans (hb5.mono tb.size)))
                      go_ret
                      exact ⟨rfl, tb⟩
                  · have hnil := nilS (S := b) (by omega)
                    have HBL := trivial
                    clear hgo g0
                    go_upto_region 16 with (first
                      | (go_at_call 19; (with_reducible refine (HBL.out _).mono ?_); rintro e w1 ⟨rfl, rfl⟩)
                      | (go_at_call 11; (with_reducible refine (HP.out _).mono ?_); rintro e w2 ⟨rfl, hb2⟩; have tb := tb.trans (hb2.mono tb.size))
                      | (go_at_call 12; (with_reducible refine (HA.out _ (HR.out.later tb)).mono ?_); rintro e w3 ⟨v3, rfl, hown3, hb3⟩; have tb := tb.trans (hb3.mono tb.size); have hs3 := ownsG.sees hown3 (Nat.le_refl _); obtain ⟨g3, c3, rfl, hc3, hg3, hcell3⟩ := sees_slice hs3 (mb.length + 1) rfl (by omega))
                      | (go_at_call 12; (with_reducible refine (HB.out _ (HR.out.later tb)).mono ?_); rintro e w4 ⟨v4, rfl, hown4, hb4⟩; have tb := tb.trans (hb4.mono tb.size); have hs4 := ownsG.sees hown4 (Nat.le_refl _); have hs3 := sees_later hs3 hb4; obtain ⟨p4, c4, rfl, hc4, -⟩ := hs4.form; obtain ⟨k0, k1, k2, k3⟩ := hcell3 0 (by simp); have k0 := cell_later hb4 k0; have k2 := cell_later hb4 k2; have d0 : w4.cell? ⟨g3, 0, none⟩ = some (.string x0) := k0; have d2 : w4.cell? ⟨g3, 2, none⟩ = some (.string x2) := k2; clear k0 k1 k2 k3 hcell3))
                    have hv3 := view_tail hs3 rfl
                    have hv4 := view_of hs4
                    have z1 : (1 : Int) ≤ ((mb.length + 1 : Nat) : Int) := by omega
                    have z2 : ((mb.length + 1 : Nat) : Int) ≤ (c3 : Int) := by omega
                    by_cases hc1 : c3 = 1
                    · subst hc1
                      have hmb : mb = [] := List.eq_nil_of_length_eq_zero (by omega)
                      have hv5 : viewF w4 (.slice (some ⟨g3, 0, none⟩) 0 0) mb := ⟨_, _, by rw [hmb]; rfl, by rw [hmb]; exact Nat.le_refl _, .inl hmb⟩
                      clear hv3 hmb
                      go_wp2_with (first
                        | (go_at_call 20; (with_reducible refine (HSM.out _ _ _ hv5 hv4).mono ?_); rintro e w5 ⟨rfl, hb5⟩; have tb := tb.trans (hb5.mono tb.size)))
                      go_ret
                      exact ⟨rfl, tb⟩
                    · rw [if_neg hc1] at hv3
                      have hv5 : viewF w4 (.slice (some ⟨g3, 4, none⟩) mb.length (c3 - 1)) mb := by
                        have e : (Option.map (·.add 4) (some (⟨g3, 0, none⟩ : Addr))) = some ⟨g3, 4, none⟩ := by
                          rw [Option.map_some]; unfold Addr.add; simp
                        rw [e] at hv3
                        exact hv3
                      clear hv3
                      go_wp2_with (first
                        | (go_at_call 20; (with_reducible refine (HSM.out _ _ _ hv5 hv4).mono ?_); rintro e w5 ⟨rfl, hb5⟩; have tb := tb.trans (hb5.mono tb.size)))
                      go_ret
                      exact ⟨rfl, tb⟩
        · have q4 : decide ((1000 : Int) < (b.size : Int)) = true := decide_eq_true (by omega)
          have p4 : decide (1000 < b.size) = true := decide_eq_true (by omega)
          go_enter Tryz.func4, Tryz.ntmps4
          go_wp2_with (first
            | (go_at_call 8; (with_reducible refine HS.out.mono ?_); rintro e w1 ⟨rfl, hb1⟩)
            | (go_at_call 10; (with_reducible refine (HRt.out _).mono ?_); rintro e w1 ⟨rfl, rfl⟩))
          go_ret
          exact ⟨rfl, hb1⟩
      · have q3 : decide ((1000 : Int) < (m.size : Int)) = true := decide_eq_true (by omega)
        have p3 : decide (1000 < m.size) = true := decide_eq_true (by omega)
        go_enter Tryz.func4, Tryz.ntmps4
        go_wp2_with (first
          | (go_at_call 8; (with_reducible refine HS.out.mono ?_); rintro e w1 ⟨rfl, hb1⟩)
          | (go_at_call 10; (with_reducible refine (HRt.out _).mono ?_); rintro e w1 ⟨rfl, rfl⟩))
        go_ret
        exact ⟨rfl, hb1⟩
    · have q2 : decide ((1000 : Int) < (v.size : Int)) = true := decide_eq_true (by omega)
      have p2 : decide (1000 < v.size) = true := decide_eq_true (by omega)
      go_enter Tryz.func4, Tryz.ntmps4
      go_wp2_with (first
        | (go_at_call 8; (with_reducible refine HS.out.mono ?_); rintro e w1 ⟨rfl, hb1⟩)
        | (go_at_call 10; (with_reducible refine (HRt.out _).mono ?_); rintro e w1 ⟨rfl, rfl⟩))
      go_ret
      exact ⟨rfl, hb1⟩
  · have q1 : decide ((100 : Int) < (s.size : Int)) = true := decide_eq_true (by omega)
    have p1 : decide (100 < s.size) = true := decide_eq_true (by omega)
    go_enter Tryz.func4, Tryz.ntmps4
    go_wp2_with (first
      | (go_at_call 8; (with_reducible refine HS.out.mono ?_); rintro e w1 ⟨rfl, hb1⟩)
      | (go_at_call 10; (with_reducible refine (HRt.out _).mono ?_); rintro e w1 ⟨rfl, rfl⟩))
    go_ret
    exact ⟨rfl, hb1⟩
end Go.Proofs.YthchklbnkojkgaaGreatDoor
