/- Walks: chapter 09's laws: HeaderPut. -/
import Derived.Test.YthchklbnkojkgaaGreatDoorR09e
import Derived.Test.YthchklbnkojkgaaGreatDoorHdG
namespace Go.Proofs.YthchklbnkojkgaaGreatDoor
open Go.RowKit Pk Hd

theorem put_fld {name : List UInt8} (value : List UInt8) (h : Named name) : ∃ x1 : ByteArray, x1.size ≤ (putL name value).length ∧ parS (putL name value) = [⟨toB name, x1, toB (putL name value), false⟩] ∧ endS (putL name value) = (putL name value).length ∧
    allV [⟨toB name, x1, toB (putL name value), false⟩] name = [toB (cleanL value)] := by
  obtain ⟨hh, he, b, f, hu, e, hf⟩ := put_head value h
  obtain ⟨p1, p2⟩ := head_one hh
  refine ⟨toB (32 :: b), by rw [← dataL, toB_data, e]; simp only [List.length_append, List.length_cons, List.length_nil]; omega, by rw [p1, hf], p2, ?_⟩
  have hv := put_value (name := name) value hu
  unfold allV
  have hn : isNamed name ⟨toB name, toB (32 :: b), toB (putL name value), false⟩ = true := by
    unfold isNamed
    rw [toB_data]; simp
  rw [List.filter_cons, if_pos hn, List.filter_nil, List.map_cons, List.map_nil, hv]
/-- a line that goes on, as the reference looks at it -/
def LineOk (n : Nat) (l : ByteArray) : Prop := l.size ≤ n ∧ ∃ D T : ByteArray, toB (bareL l.data.toList) = D ∧ toB (trimB D.data.toList) = T ∧ 0 < T.size ∧ 0 < D.size ∧ (D.size ≤ 78 ∨ pieceN D.data.toList = D.data.toList.length)
theorem line_ok {n : Nat} {l : ByteArray} {d : List UInt8} (hn : l.size ≤ n) (h : l.data.toList = d ++ [13, 10]) (ho : OnLine d) : LineOk n l := by
  refine ⟨hn, toB d, toB (trimB d), by rw [h, bare_crlf], by rw [toB_data], ?_, ?_, ?_⟩
  · have := List.length_pos_iff.2 (trim_full ho.full)
    rw [← dataL, toB_data]; exact this
  · obtain ⟨x, hx, -⟩ := ho.full
    rw [← dataL, toB_data]; exact List.length_pos_of_mem hx
  · rw [toB_data, ← dataL, toB_data]; exact ho.len
theorem acc_ok {acc : List ByteArray} {name value : List UInt8} (h : Named name) (he : acc.map (·.data.toList) = linesL (putL name value)) : 0 < acc.length ∧ ∀ i (hi : i < acc.length), 1 ≤ i → LineOk (putL name value).length acc[i] := by
  have hfl := lines_flat _ (putL name value) (Nat.le_refl _)
  obtain ⟨x, ls, hl, hm⟩ := put_lines value h
  rw [hl] at he
  have hlen : acc.length = ls.length + 1 := by have := congrArg List.length he; simpa using this
  refine ⟨by omega, fun i hi h1 => ?_⟩
  obtain ⟨j, rfl⟩ : ∃ j, i = j + 1 := ⟨i - 1, by omega⟩
  have hj : j < ls.length := by omega
  have e : acc[j + 1].data.toList = ls[j] := by
    have h1 : (acc.map (·.data.toList))[j + 1]? = some acc[j + 1].data.toList := by rw [List.getElem?_map, List.getElem?_eq_getElem hi]; rfl
    rw [he, List.getElem?_cons_succ, List.getElem?_eq_getElem hj] at h1
    exact (Option.some.inj h1).symm
  obtain ⟨d, hd, -, ho⟩ := hm _ (List.getElem_mem hj)
  have hz : acc[j + 1].size ≤ (putL name value).length := by
    have hm : ls[j] ∈ linesL (putL name value) := by rw [hl]; exact List.mem_cons_of_mem _ (List.getElem_mem hj)
    obtain ⟨a, b, hab⟩ := List.append_of_mem hm
    rw [hab, List.flatten_append, List.flatten_cons] at hfl
    have := congrArg List.length hfl
    simp only [List.length_append] at this
    rw [← dataL, e]; omega
  exact line_ok hz (e.trans hd) ho
theorem strs_slice {w : World} {B : Nat} {e : TypeId} {v : Value} {l : List ByteArray} (h : ownsS w B e v l) (hl : 0 < l.length) : ∃ g c, v = .slice (some ⟨g, 0, none⟩) l.length c ∧ l.length ≤ c ∧ ∀ j (hj : j < l.length), w.cell? ⟨g, j, none⟩ = some (.string l[j]) := by
  rcases h.form with ⟨-, e0⟩ | ⟨g, c, hv, hg, hc, hcc, hcell⟩
  · rw [e0] at hl; simp at hl
  · exact ⟨g, c, hv, hc, hcell⟩
set_option maxHeartbeats 8000000 in
set_option maxRecDepth 100000 in
theorem put_of (s v : ByteArray) (w : World) (h : Rt w) : Calls Tryz.prog 3 #[.string s, .string v] w (Truth w) := by
  have HS := Lib.hid (small9_any w h)
  have HR := Lib.hid h
  have hF1 := few9_any s
  have hF2 := few9_any v
  by_cases a1 : s.size ≤ 5000
  · rw [decide_eq_true a1] at hF1
    have HF1 := Lib.hid hF1
    clear hF1
    by_cases a2 : v.size ≤ 5000
    · rw [decide_eq_true a2] at hF2
      have HF2 := Lib.hid hF2
      clear hF2
      have hRt := fun w => right_any s w (by omega)
      cases hr : rightB s.data.toList with
      | false =>
        rw [hr] at hRt
        have HRt := Lib.hid hRt
        clear hRt hr
        clear h
        go_enter Tryz.func3, Tryz.ntmps3
        go_wp2_with (first
          | (go_at_call 8; (with_reducible refine HS.out.mono ?_); rintro e w1 ⟨rfl, hb1⟩)
          | (go_at_call 9; (with_reducible refine (HF1.out _).mono ?_); rintro e w1 ⟨rfl, rfl⟩)
          | (go_at_call 9; (with_reducible refine (HF2.out _).mono ?_); rintro e w1 ⟨rfl, rfl⟩)
          | (go_at_call 10; (with_reducible refine (HRt.out _).mono ?_); rintro e w1 ⟨rfl, rfl⟩))
        go_ret
        exact ⟨rfl, hb1⟩
      | true =>
        rw [hr] at hRt
        have HRt := Lib.hid hRt
        have hnm := right_named.1 hr
        obtain ⟨x1, f0, f1, f2, f3⟩ := put_fld v.data.toList hnm
        have hL := (fun (acc : List ByteArray) he => acc_ok (acc := acc) (value := v.data.toList) hnm he)
        have hpl := put_le s.data.toList v.data.toList
        rw [dataL, dataL] at hpl
        have hxl : x1.size ≤ 1000000 := by omega
        obtain ⟨P, hPe, hPd, hPs⟩ := arrE (putL s.data.toList v.data.toList)
        obtain ⟨V, hVe, hVd, hVs⟩ := arrE (cleanL v.data.toList)
        have hcl := clean_le v.data.toList
        rw [dataL] at hcl
        have hP := fun w => put_any s v w (by omega) (by omega)
        have hC := fun w => rclean_any v w (by omega)
        have hP2 : toB (putL s.data.toList v.data.toList) = P := hPe.symm
        have hV2 : toB (cleanL v.data.toList) = V := hVe.symm
        rw [hP2] at hP f1 f3
        rw [hV2] at hC f3
        rw [hPs.symm, ← hPd] at hL
        have HL := Lib.hid hL
        clear hL
        rw [← hPd] at f1 f2
        rw [dataL] at f2
        have hA := fun w' hr => parse_rt P w' hr (by omega)
        unfold ParIs at hA
        rw [f1, f2] at hA
        rw [toB_back] at hA f3
        have hG := fun va w' hr hM => get_rt va [⟨s, x1, P, false⟩] s w' hr (by omega) (by simp) (fun x hx => by rw [List.mem_singleton] at hx; subst hx; exact ⟨by show s.size ≤ _; omega, hxl⟩) hM
        rw [f3] at hG
        have hG2 : ∀ va w', Rt w' → seesG fldLay w' w'.heap.size 29 va [⟨s, x1, P, false⟩] → Calls Tryz.prog 13 #[va, .string s] w' fun e w1 => e = .returned (.tuple #[.string V, .bool true]) ∧ Below w'.heap.size w' w1 := fun va w' hr hM => hG va w' hr hM
        have hLi := fun w => rlines_any P w (by omega)
        have HP := Lib.hid hP
        have HA := Lib.hid hA
        have HG := Lib.hid hG2
        have HLi := Lib.hid hLi
        have HC := Lib.hid hC
        have tb := Below.refl w.heap.size w
        clear hP hC hA hG hG2 hLi hP2 hV2 f1 f2 f3 hPe hVe hPd hVd hRt hr hnm hVs hcl
        go_enter Tryz.func3, Tryz.ntmps3
        go_wp2_with (first
          | (go_at_call 8; (with_reducible refine HS.out.mono ?_); rintro e w1 ⟨rfl, hb1⟩; have tb := tb.trans hb1)
          | (go_at_call 9; (with_reducible refine (HF1.out _).mono ?_); rintro e w1 ⟨rfl, rfl⟩)
          | (go_at_call 9; (with_reducible refine (HF2.out _).mono ?_); rintro e w1 ⟨rfl, rfl⟩)
          | (go_at_call 10; (with_reducible refine (HRt.out _).mono ?_); rintro e w1 ⟨rfl, rfl⟩)
          | (go_at_call 11; (with_reducible refine (HP.out _).mono ?_); rintro e w2 ⟨rfl, hb2⟩; have tb := tb.trans (hb2.mono tb.size))
          | (go_at_call 12; (with_reducible refine (HA.out _ (HR.out.later tb)).mono ?_); rintro e w3 ⟨v3, rfl, hown3, hb3⟩; have tb := tb.trans (hb3.mono tb.size); have hs3 := ownsG.sees hown3 (Nat.le_refl _); obtain ⟨g3, c3, rfl, hc3, hg3, hcell3⟩ := sees_slice hs3 1 rfl (by decide); obtain ⟨k0, k1, k2, k3⟩ := hcell3 0 Nat.one_pos; have d0 : w3.cell? ⟨g3, 0, none⟩ = some (.string s) := k0; have d2 : w3.cell? ⟨g3, 2, none⟩ = some (.string P) := k2; have d3 : w3.cell? ⟨g3, 3, none⟩ = some (.bool false) := k3; clear k0 k1 k2 k3 hcell3)
          | (go_at_call 13; (with_reducible refine (HG.out _ _ (HR.out.later tb) hs3).mono ?_); rintro e w4 ⟨rfl, hb4⟩; have tb := tb.trans (hb4.mono tb.size))
          | (go_at_call 14; (with_reducible refine (HLi.out _).mono ?_); rintro e w5 ⟨v5, acc, rfl, hown5, he5, hl5, hb5⟩; have tb := tb.trans (hb5.mono tb.size); obtain ⟨g5, c5, rfl, hc5, hcell5⟩ := strs_slice hown5 (HL.out acc he5).1))
        go_loopw [12] (fun iv wr => ∃ i : Nat, iv = .int .i64 i ∧ 1 ≤ i ∧ i ≤ acc.length ∧ Below w5.heap.size w5 wr) (fun iv _ => acc.length - (intOf iv).toNat)
        case atStart => exact ⟨1, by first | rfl | trivial, by omega, by have := (HL.out acc he5).1; omega, Below.refl _ _⟩
        case round =>
          obtain ⟨i, rfl, h1, hi, hbel⟩ := hrel
          have hz := hbel.size
          have tb2 := tb.trans (hbel.mono tb.size)
          by_cases hlt : i < acc.length
          · obtain ⟨n0, D, T, e1, e2, hT, hD, hor⟩ := (HL.out acc he5).2 i hlt h1
            · have k0 := cell_later hbel (hcell5 i hlt)
              have hB := fun w => rbare_any acc[i] w (by omega)
              rw [e1] at hB
              have hDl : D.size ≤ P.size := by
                have := bare_le acc[i].data.toList
                rw [dataL] at this
                have h2 : D.size = (bareL acc[i].data.toList).length := by rw [← e1, ← dataL, toB_data]
                omega
              have hTr := fun w => rtrim_any D w (by omega)
              rw [e2] at hTr
              have hne := neS hT
              have z0 : (0 : Int) ≤ (i : Int) := by omega
              have z1 : (i : Int) < (acc.length : Int) := by omega
              have HB := Lib.hid hB
              have HT := Lib.hid hTr
              generalize acc[i] = L at k0 HB
              clear e1 e2 hB hTr
              by_cases h78 : D.size ≤ 78
              · have q1 : decide ((78 : Int) < (D.size : Int)) = false := decide_eq_false (by omega)
                have q2 : decide (78 < D.size) = false := decide_eq_false (by omega)
                go_wp2_with (first
                  | (go_at_call 15; (with_reducible refine (HB.out _).mono ?_); rintro e w1 ⟨rfl, rfl⟩)
                  | (go_at_call 17; (with_reducible refine (HT.out _).mono ?_); rintro e w1 ⟨rfl, rfl⟩))
                go_roundw
                case rel => exact ⟨i + 1, by go_num, by omega, by omega, hbel⟩
                case measure => simp [intOf]; omega
              · have q1 : decide ((78 : Int) < (D.size : Int)) = true := decide_eq_true (by omega)
                have q2 : decide (78 < D.size) = true := decide_eq_true (by omega)
                have hPi := fun w => rpieces_one D w (by omega) hD (hor.resolve_left h78)
                have HPi := Lib.hid hPi
                clear hPi
                go_wp2_with (first
                  | (go_at_call 15; (with_reducible refine (HB.out _).mono ?_); rintro e w1 ⟨rfl, rfl⟩)
                  | (go_at_call 16; (with_reducible refine (HPi.out _).mono ?_); rintro e w6 ⟨⟨p6, c6, rfl⟩, hb6⟩; have hbel := hbel.trans (hb6.mono hz))
                  | (go_at_call 17; (with_reducible refine (HT.out _).mono ?_); rintro e w1 ⟨rfl, rfl⟩))
                go_roundw
                case rel => exact ⟨i + 1, by go_num, by omega, by omega, hbel⟩
                case measure => simp [intOf]; omega
          · go_wp2_with (go_at_call 18; (with_reducible refine (HC.out _).mono ?_); rintro e w7 ⟨rfl, hb7⟩; have tb2 := tb2.trans (hb7.mono tb2.size))
            go_ret
            exact ⟨rfl, tb2⟩
    · rw [decide_eq_false a2] at hF2
      have HF2 := Lib.hid hF2
      have HRt := trivial
      clear hF2
      clear h
      go_enter Tryz.func3, Tryz.ntmps3
      go_wp2_with (first
        | (go_at_call 8; (with_reducible refine HS.out.mono ?_); rintro e w1 ⟨rfl, hb1⟩)
        | (go_at_call 9; (with_reducible refine (HF1.out _).mono ?_); rintro e w1 ⟨rfl, rfl⟩)
        | (go_at_call 9; (with_reducible refine (HF2.out _).mono ?_); rintro e w1 ⟨rfl, rfl⟩)
        | (go_at_call 10; (with_reducible refine (HRt.out _).mono ?_); rintro e w1 ⟨rfl, rfl⟩))
      go_ret
      exact ⟨rfl, hb1⟩
  · rw [decide_eq_false a1] at hF1
    have HF1 := Lib.hid hF1
    have HF2 := trivial
    have HRt := trivial
    clear hF1 hF2
    clear h
    go_enter Tryz.func3, Tryz.ntmps3
    go_wp2_with (first
      | (go_at_call 8; (with_reducible refine HS.out.mono ?_); rintro e w1 ⟨rfl, hb1⟩)
      | (go_at_call 9; (with_reducible refine (HF1.out _).mono ?_); rintro e w1 ⟨rfl, rfl⟩)
      | (go_at_call 9; (with_reducible refine (HF2.out _).mono ?_); rintro e w1 ⟨rfl, rfl⟩)
      | (go_at_call 10; (with_reducible refine (HRt.out _).mono ?_); rintro e w1 ⟨rfl, rfl⟩))
    go_ret
    exact ⟨rfl, hb1⟩
end Go.Proofs.YthchklbnkojkgaaGreatDoor
