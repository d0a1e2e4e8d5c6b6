/- Walks: the law FoldStays. -/
import Derived.Test.YtlbnhkojfefccaaDoorLaw5
import Derived.Test.YtlbnhkojfefccaaDoorFdO
import Derived.Deep.RegionHeld3
import Derived.Deep.DeepCutAuto
import Derived.Deep.CutBlock
namespace Go.Proofs.YtlbnhkojfefccaaDoor
open Go.RowKit Pk U8 Su Fo

theorem catL_step {us : List ByteArray} {i : Nat} {O X : List UInt8} (h : Hid (O ++ catL (us.drop i) = X)) (hi : i < us.length) : Hid (O ++ us[i].data.toList ++ catL (us.drop (i + 1)) = X) := by
  have e := h.out
  rw [List.drop_eq_getElem_cons hi, catL_cons] at e
  show _ = _
  rw [← e, List.append_assoc]
theorem catL_end {us : List ByteArray} {i : Nat} {O X : List UInt8} (h : Hid (O ++ catL (us.drop i) = X)) (hi : ¬ i < us.length) : O = X := by
  have e := h.out
  rw [List.drop_eq_nil_of_le (by omega)] at e
  simpa [catL] using e
theorem unit_small {u : ByteArray} (h : IsUnit u) : 1 ≤ u.size ∧ u.size ≤ 4 := by
  have := dec_width _ (unit_ne h.pos)
  have hw := h.wid
  omega
theorem fold_unit_ba {u : ByteArray} (h : IsUnit u) : (⟨(foldL u.data.toList).toArray⟩ : ByteArray) = fo u := by
  refine ba_ext ?_
  rw [← fold_unit h]
set_option maxHeartbeats 4000000 in
set_option maxRecDepth 100000 in
theorem stays5_any (a b : ByteArray) (w : World) (h : Rd w) : Calls Tryd.prog 5 #[.string a, .string b] w fun e w' => e = .returned (.bool true) ∧ Below w.heap.size w w' := by
  have HS := Lib.hid (fun w' (hb : Below w.heap.size w w') => small_any w' (h.later hb))
  have tb := Below.refl w.heap.size w
  by_cases la : a.size ≤ 1000
  · have q1 : decide ((1000 : Int) < (a.size : Int)) = false := decide_eq_false (by omega)
    by_cases lb : b.size ≤ 1000
    · have q2 : decide ((1000 : Int) < (b.size : Int)) = false := decide_eq_false (by omega)
      have hsz : a.data.toList.length = a.size := rfl
      have hul := units_length a.data.toList
      have hw := wf_of a.data.toList
      have hmem := wf_mem _ hw
      have hcat := catL_units _ a.data.toList (Nat.le_refl _)
      have hflen := foldL_len a.data.toList
      have hff := fold_fold a.data.toList
      have huf := units_fold a.data.toList
      have hEab := fun w' (hb : Below w.heap.size w w') => equal_rd a b w' (h.later hb) (by omega) (by omega)
      have hFa := fun w' (hb : Below w.heap.size w w') => fold_rd a w' (h.later hb) (by omega)
      have hFb := fun w' (hb : Below w.heap.size w w') => fold_rd b w' (h.later hb) (by omega)
      have hv0 : eqF a.data.toList b.data.toList = true → a.size = b.size := fun e => by
        unfold eqF at e
        rw [beq_iff_eq] at e
        have h1 := foldL_len b.data.toList
        have h2 : b.data.toList.length = b.size := rfl
        rw [← e] at h1; omega
      obtain ⟨X, hX, hXl, hXs⟩ : ∃ X : ByteArray, X = ⟨(foldL a.data.toList).toArray⟩ ∧ X.data.toList = foldL a.data.toList ∧ X.size = (foldL a.data.toList).length := ⟨_, rfl, by simp, by simp [ByteArray.size]⟩
      obtain ⟨Y, hY, hYl, -⟩ : ∃ X : ByteArray, X = ⟨(foldL b.data.toList).toArray⟩ ∧ X.data.toList = foldL b.data.toList ∧ X.size = (foldL b.data.toList).length := ⟨_, rfl, by simp, by simp [ByteArray.size]⟩
      have hXa : X.size = a.size := by omega
      have hFX := fun w' (hb : Below w.heap.size w w') => fold_rd X w' (h.later hb) (by omega)
      have hEX := fun w' (hb : Below w.heap.size w w') => equal_rd a X w' (h.later hb) (by omega) (by omega)
      have hvX : eqF a.data.toList X.data.toList = true := by unfold eqF; rw [hXl, hff]; exact beq_self_eq_true _
      rw [hvX] at hEX
      rw [hXl, hff, ← hX] at hFX
      rw [← hX] at hFa
      rw [← hY] at hFb
      have hvv : eqF a.data.toList b.data.toList = (X.toList == Y.toList) := by unfold eqF; rw [Lib.toList_data, Lib.toList_data, hXl, hYl]
      rw [hvv] at hEab hv0
      obtain ⟨v, hv⟩ : ∃ v, (X.toList == Y.toList) = v := ⟨_, rfl⟩
      rw [hv] at hEab hv0
      have hUa := fun w' => unitsP_any a w' (by omega)
      have hUX := fun w' => unitsP_any X w' (by omega)
      rw [hXl, huf] at hUX
      unfold UnitsP at hUa hUX
      generalize unitsB a.data.toList = us at hUa hUX hul hmem hcat
      have hFu := fun (u : ByteArray) (hu : u ∈ us) w' (hb : Below w.heap.size w w') => fold_rd u w' (h.later hb) (by have := unit_small (hmem u hu); omega)
      have hz0 : Hid (([] : List UInt8) ++ catL (us.drop 0) = a.data.toList) := hcat
      have hvl : (us.map fo).length = us.length := List.length_map ..
      obtain ⟨vs, hvs⟩ : ∃ vs, vs = us.map fo := ⟨_, rfl⟩
      rw [← hvs] at hUX hvl
      have hvi : ∀ i (h1 : i < us.length) (h2 : i < vs.length), vs[i] = fo us[i] := fun i h1 h2 => by
        have : vs[i]? = some (fo us[i]) := by rw [hvs, List.getElem?_map, List.getElem?_eq_getElem h1]; rfl
        rw [List.getElem?_eq_getElem h2] at this
        exact Option.some.inj this
      have HVI := Lib.hid hvi
      have HMEM := Lib.hid hmem
      have HFU := Lib.hid hFu
      have HEAB := Lib.hid hEab
      have HFA := Lib.hid hFa
      have HFB := Lib.hid hFb
      have HFX := Lib.hid hFX
      have HEX := Lib.hid hEX
      have HUA := Lib.hid hUa
      have HUX := Lib.hid hUX
      have HV := Lib.hid hv
      have HV0 := Lib.hid hv0
      have hun : us.length ≤ 1000 := by omega
      have qf : ((X.size : Int) == (a.size : Int)) = true := by rw [hXa]; exact beq_self_eq_true _
      have ql : ((us.length : Int) != (vs.length : Int)) = false := by rw [hvl]; simp
      have hvl2 : us.length ≤ vs.length := by omega
      clear hvi hmem hFu hEab hFa hFb hFX hEX hUa hUX hv hv0 hX hXl hXs hY hYl hvX hvv hw hflen hff huf hcat hul hsz hvl hvs h
      go_enter Tryd.func5, Tryd.ntmps5
      go_upto_region 10 with (first
        | (go_at_call 8; (with_reducible refine (HS.out _ tb).mono ?_); rintro e w1 ⟨rfl, hb1⟩; have tb := tb.trans (hb1.mono tb.size))
        | (go_at_call 12; (with_reducible refine (HFA.out _ tb).mono ?_); rintro e w2 ⟨rfl, hb2⟩; have tb := tb.trans (hb2.mono tb.size))
        | (go_at_call 10; (with_reducible refine (HUA.out _).mono ?_); rintro e w3 ⟨v3, rfl, hown3, hb3⟩; have tb := tb.trans (hb3.mono tb.size); obtain ⟨pu, cu, rfl, hcu, hsu⟩ := ownsS.seesS hown3)
        | (go_at_call 10; (with_reducible refine (HUX.out _).mono ?_); rintro e w4 ⟨v4, rfl, hown4, hb4⟩; have tb := tb.trans (hb4.mono tb.size); obtain ⟨pv, cv, rfl, hcv, hsv⟩ := ownsS.seesS hown4))
      have hsu4 : us = [] ∨ ∃ g o, pu = some ⟨g, o, none⟩ ∧ ∀ j (hj : j < us.length), w4.cell? ⟨g, o + j, none⟩ = some (.string us[j]) := by
        rcases hsu with h | ⟨g, o, h1, h2⟩
        · exact .inl h
        · exact .inr ⟨g, o, h1, fun j hj => cell_later hb4 (h2 j hj)⟩
      have HSU := Lib.hid hsu4
      have HSV := Lib.hid hsv
      have hb0 := Below.refl w4.heap.size w4
      clear hsu hsu4 hsv hown3 hown4 hb3
      go_wp2
      go_loopw [9, 10] (fun ov iv wr => ∃ (i : Nat) (O : ByteArray), ov = .string O ∧ iv = .int .i64 i ∧ Below w4.heap.size w4 wr ∧ i ≤ us.length ∧ O.size ≤ 1000 ∧ Hid (O.data.toList ++ catL (us.drop i) = a.data.toList)) (fun _ iv _ => us.length - (intOf iv).toNat)
      case atStart => exact ⟨0, ⟨#[]⟩, by first | rfl | trivial, by first | rfl | trivial, hb0, by omega, by decide, hz0⟩
      case round =>
        clear hb0 hz0
        obtain ⟨i, O, rfl, rfl, hbel, hi, hOs, hrel⟩ := hrel
        have tbr := tb.trans (hbel.mono tb.size)
        by_cases hlt : i < us.length
        · have hlt2 : i < vs.length := by omega
          rcases HSU.out with h0 | ⟨gu, ou, rfl, hcu2⟩
          · rw [h0, List.length_nil] at hlt; omega
          · rcases HSV.out with h0 | ⟨gv, ov, rfl, hcv2⟩
            · rw [h0, List.length_nil] at hlt2; omega
            · have c1 := cell_later hbel (hcu2 i hlt)
              have c2 := cell_later hbel (hcv2 i hlt2)
              have hu := HMEM.out us[i] (List.getElem_mem _)
              have hfu := fun w' hb => HFU.out us[i] (List.getElem_mem _) w' hb
              rw [fold_unit_ba hu, ← HVI.out i hlt hlt2] at hfu
              have hss : us[i].size = vs[i].size := by rw [HVI.out i hlt hlt2, fo_size hu]
              obtain ⟨z1, z2⟩ := unit_small hu
              have hd := catL_step hrel hlt
              have hOl := congrArg List.length hd.out
              rw [List.length_append, List.length_append, size_l, size_l] at hOl
              have hsz2 : a.data.toList.length = a.size := rfl
              generalize us[i] = u at c1 hfu hss z1 z2 hd hOl
              generalize vs[i] = x at c2 hfu hss
              have HFU2 := Lib.hid hfu
              have qa : ((u.size : Int) != (x.size : Int)) = false := by rw [hss]; simp
              have qb : decide ((u.size : Int) < 1) = false := decide_eq_false (by omega)
              have qc : decide ((4 : Int) < (u.size : Int)) = false := decide_eq_false (by omega)
              have hOu : O.size + u.size ≤ 1000 := by omega
              clear hrel hu hfu hss hcu2 hcv2 hOl hsz2
              go_upto_region 13 with fail
              go_region_held3 (fun W => W.cell? ⟨gu, ou + i, none⟩ = some (.string u) ∧ W.cell? ⟨gv, ov + i, none⟩ = some (.string x)) (first | exact ⟨c1, c2⟩ | exact ⟨c18, c28⟩ | fail) (first
                | (go_at_call 12; (refine (HFU2.out _ (by first | exact tbr.drew | exact tbr)).mono ?_); rintro e w8 ⟨rfl, hb8⟩; have c18 := cell_later hb8 (show wr.drew.cell? _ = _ from c1); have c28 := cell_later hb8 (show wr.drew.cell? _ = _ from c2); have hbel8 := hbel.drew.trans (hb8.mono (show w4.heap.size ≤ wr.drew.heap.size from hbel.size))) | fail)
              all_goals
                go_wp2
                go_roundw
                case rel => exact ⟨i + 1, O ++ u, by first | rfl | trivial, by go_num, hbel8, by omega, by rw [ByteArray.size_append]; exact hOu, by show _ = _; rw [ByteArray.data_append, Array.toList_append]; exact hd.out⟩
                case measure => simp [intOf]; omega
        · have hOa : O = a := ba_ext (catL_end hrel hlt)
          subst hOa
          clear hrel
          cases v with
          | true =>
            have hab := HV0.out rfl
            have qab : ((O.size : Int) == (b.size : Int)) = true := by rw [hab]; exact beq_self_eq_true _
            have hv := HV.out
            clear hab HV0
            go_wp2_with (first
              | (go_at_call 14; (with_reducible refine (HEAB.out _ tbr).mono ?_); rintro e w1 ⟨rfl, hb1⟩; have tbr := tbr.trans (hb1.mono tbr.size))
              | (go_at_call 14; (with_reducible refine (HEX.out _ tbr).mono ?_); rintro e w1 ⟨rfl, hb1⟩; have tbr := tbr.trans (hb1.mono tbr.size))
              | (go_at_call 12; (with_reducible refine (HFX.out _ tbr).mono ?_); rintro e w1 ⟨rfl, hb1⟩; have tbr := tbr.trans (hb1.mono tbr.size))
              | (go_at_call 12; (with_reducible refine (HFA.out _ tbr).mono ?_); rintro e w1 ⟨rfl, hb1⟩; have tbr := tbr.trans (hb1.mono tbr.size))
              | (go_at_call 12; (with_reducible refine (HFB.out _ tbr).mono ?_); rintro e w1 ⟨rfl, hb1⟩; have tbr := tbr.trans (hb1.mono tbr.size)))
            go_ret
            exact ⟨rfl, tbr⟩
          | false =>
            have hv := HV.out
            clear HV0
            go_wp2_with (first
              | (go_at_call 14; (with_reducible refine (HEAB.out _ tbr).mono ?_); rintro e w1 ⟨rfl, hb1⟩; have tbr := tbr.trans (hb1.mono tbr.size))
              | (go_at_call 14; (with_reducible refine (HEX.out _ tbr).mono ?_); rintro e w1 ⟨rfl, hb1⟩; have tbr := tbr.trans (hb1.mono tbr.size))
              | (go_at_call 12; (with_reducible refine (HFX.out _ tbr).mono ?_); rintro e w1 ⟨rfl, hb1⟩; have tbr := tbr.trans (hb1.mono tbr.size))
              | (go_at_call 12; (with_reducible refine (HFA.out _ tbr).mono ?_); rintro e w1 ⟨rfl, hb1⟩; have tbr := tbr.trans (hb1.mono tbr.size))
              | (go_at_call 12; (with_reducible refine (HFB.out _ tbr).mono ?_); rintro e w1 ⟨rfl, hb1⟩; have tbr := tbr.trans (hb1.mono tbr.size)))
            go_ret
            exact ⟨rfl, tbr⟩
    · have q2 : decide ((1000 : Int) < (b.size : Int)) = true := decide_eq_true (by omega)
      clear h
      go_enter Tryd.func5, Tryd.ntmps5
      go_wp2_with (go_at_call 8; (with_reducible refine (HS.out _ tb).mono ?_); rintro e w1 ⟨rfl, hb1⟩; have tb := tb.trans (hb1.mono tb.size))
      go_ret
      exact ⟨rfl, tb⟩
  · have q1 : decide ((1000 : Int) < (a.size : Int)) = true := decide_eq_true (by omega)
    clear h
    go_enter Tryd.func5, Tryd.ntmps5
    go_wp2_with (go_at_call 8; (with_reducible refine (HS.out _ tb).mono ?_); rintro e w1 ⟨rfl, hb1⟩; have tb := tb.trans (hb1.mono tb.size))
    go_ret
    exact ⟨rfl, tb⟩
end Go.Proofs.YtlbnhkojfefccaaDoor
