/- Walks of the reference pouchref30: Step, the late cases. Printed by gen30h.py. -/
import Derived.Test.YtmpggcjfmcigmaaDoorR30g
namespace Go.Proofs.YtmpggcjfmcigmaaDoor
open Go.RowKit Pk U8 Su Fo

def Late (l : List UInt8) (V : List UInt8 × Bool × Bool) : Prop :=
  (∀ t, answer l = some t → V = (t, true, true)) ∧
  (∀ t, answer l = none → blob l = some t → t ≠ [] → V = (t, false, true)) ∧
  (∀ t, answer l = none → (∀ u, blob l = some u → u = []) → wrap l = some t → V = (t, true, true)) ∧
  (answer l = none → (∀ u, blob l = some u → u = []) → wrap l = none → V = (l, false, false))
theorem late_of {l : List UInt8} (h1 : ¬ l.getLast? = some 32) (h2 : ¬ endsF l = true) (h3 : ¬ l.head? = some 32) : Late l (stepV l) := by
  refine ⟨fun t h4 => stepV_some (stepR_ans h1 h2 h3 h4), fun t h4 hb ht => stepV_some ?_, fun t h4 hb hw => stepV_some ?_, fun h4 hb hw => stepV_none ?_⟩
  · rw [stepR_late h1 h2 h3 h4, hb]; simp only; rw [if_neg ht]
  · rw [stepR_late h1 h2 h3 h4]
    cases hq : blob l with
    | none => simp only [hw]; rfl
    | some u => simp only; rw [if_pos (hb u hq), hw]; rfl
  · rw [stepR_late h1 h2 h3 h4]
    cases hq : blob l with
    | none => simp only [hw]; rfl
    | some u => simp only; rw [if_pos (hb u hq), hw]; rfl
theorem begins_zero (s : ByteArray) (w : World) (hs : s.size ≤ 10000000) :
    Calls Tryd.prog 57 #[.string s, .int .i64 0, .string ⟨#[91, 102, 119, 100, 58]⟩] w fun e w' => e = .returned (.bool (begB s 0 M5)) ∧ Below w.heap.size w w' := beginsR_any s 0 M5 w hs (by omega) (by decide)
theorem blob_zero (s : ByteArray) (w : World) (hs : s.size ≤ 10000000) :
    Calls Tryd.prog 59 #[.string s, .int .i64 0] w fun e w' => e = .returned (.int .i64 (ixO s (blob (tl s 0)))) ∧ w = w' := blobR_any s 0 w hs (by omega)
theorem ext_mid (s : ByteArray) : (s.extract 5 (s.size - 1)).data.toList = (tl s 5).dropLast := by
  rw [ext_listS, List.dropLast_eq_take, tl_length]; unfold tl
  rw [show s.size - 1 - 5 = s.size - 5 - 1 by omega]
set_option maxHeartbeats 4000000 in
set_option maxRecDepth 100000 in
theorem step_rest_small (s : ByteArray) (w : World) (h0 : 0 < s.size) (h5 : ¬ 5 ≤ s.size) (h1 : ¬ s[s.size - 1] = 32) (h3 : ¬ s[0] = 32) (hs : s.size ≤ 10000000) :
    Calls Tryd.prog 36 #[.string s] w (StepRIs (stepV s.data.toList) w) := by
  have hz : 0 < s.size := by omega
  have h2 : ¬ endsF s.data.toList = true := by rw [endsF_short _ (by show s.size < 5; omega)]; decide
  have hl := late_of (l := s.data.toList) (by rw [last_iff s hz]; simpa using h1) h2 (by rw [head_iff s hz]; simpa using h3)
  have q1 : ((s[s.size - 1].toNat : Int) == 32) = false := beq_eq_false_iff_ne.2 (by have := u8_ne (n := 32) h1 (by omega); omega)
  have q2 : ((s[0].toNat : Int) == 32) = false := beq_eq_false_iff_ne.2 (by have := u8_ne (n := 32) h3 (by omega); omega)
  have HL := Lib.hid hl
  have hbz := fun w' => blob_zero s w' hs
  have hgz := fun w' => begins_zero s w' hs
  have HG := Lib.hid hgz
  have HZ := Lib.hid hbz
  clear hl hbz hgz h1 h2 h3
  generalize stepV s.data.toList = V at HL
  obtain ⟨R, hR⟩ : ∃ R, R = answer s.data.toList := ⟨_, rfl⟩
  have hr0 : Hid (mkF [re, fwd, fw] (skip (tl s 0)) = R) := by show _ = _; rw [hR, answer_mk, tl_zero]
  have HR := Lib.hid hR
  clear hR
  go_enter Tryd.func36, Tryd.ntmps36
  go_wp2
  go_loopw [7] (fun i wr => ∃ (j : Nat), i = .int .i64 j ∧ j ≤ s.size ∧ Below w.heap.size w wr ∧ Hid (mkF [re, fwd, fw] (skip (tl s j)) = R)) (fun i _ => s.size - (intOf i).toNat)
  case atStart => exact ⟨0, by first | rfl | trivial, by omega, Below.refl _ _, hr0⟩
  case round =>
    obtain ⟨j, rfl, hj, hbel, hrel⟩ := hrel
    have hM := fun w' => markR_any s j w' hs hj
    rcases mk_ix2 s j with ⟨hm, hm'⟩ | ⟨t, ht, hm, hm'⟩
    · have hQ := fun w' => blobR_any s j w' hs hj
      rcases blob_ix2 s j with ⟨hb, hb'⟩ | ⟨t, ht, hb, hb'⟩
      · have ha : answer s.data.toList = none := by rw [← HR.out, ← hrel.out, skip_none hb, hm]
        rw [hm'] at hM
        rw [hb'] at hQ
        have HM := Lib.hid hM
        have HQ := Lib.hid hQ
        have HA := Lib.hid ha
        clear hM hQ hm hm' hb hb' hrel ha hr0
        have hz' := HZ.out
        rcases blob_ix2 s 0 with ⟨hc, hc'⟩ | ⟨t, ht, hc, hc'⟩
        · have hbn : ∀ u, blob s.data.toList = some u → u = [] := fun u hu => by rw [← tl_zero, hc] at hu; cases hu
          rw [hc'] at hz'
          have HZ' := Lib.hid hz'
          clear hc hc' hz'
          have hgz := HG.out
          cases hg : begB s 0 M5 with
          | false =>
            have ha := Lib.hid (HL.out.2.2.2 HA.out hbn (wrap_no hg))
            rw [hg] at hgz
            have HG' := Lib.hid hgz
            clear hg hgz hbn
            go_wp2_with (first
              | (go_at_call 58; (with_reducible refine (HM.out _).mono ?_); rintro e w2 ⟨rfl, hb2⟩)
              | (go_at_call 59; (with_reducible refine (HQ.out _).mono ?_); rintro e w' ⟨rfl, rfl⟩)
              | (go_at_call 59; (with_reducible refine (HZ'.out _).mono ?_); rintro e w' ⟨rfl, rfl⟩)
              | (go_at_call 57; (with_reducible refine (HG'.out _).mono ?_); rintro e w3 ⟨rfl, hb3⟩))
            go_ret3
            exact ⟨fin3 ha.out rfl, (hbel.trans (hb2.mono hbel.size)).trans (hb3.mono (by have := hbel.size; have := hb2.size; omega))⟩
          | true =>
            obtain ⟨h5', hw⟩ := wrap_at hg
            exact absurd h5' (by omega)
        · by_cases htl : t < s.size
          · have ha := Lib.hid (HL.out.2.1 _ HA.out (by rw [← tl_zero]; exact hc) (tl_ne htl))
            rw [hc'] at hz'
            have HZ' := Lib.hid hz'
            clear hc hc' hz'
            go_wp2_with (first
              | (go_at_call 58; (with_reducible refine (HM.out _).mono ?_); rintro e w2 ⟨rfl, hb2⟩)
              | (go_at_call 59; (with_reducible refine (HQ.out _).mono ?_); rintro e w' ⟨rfl, rfl⟩)
              | (go_at_call 59; (with_reducible refine (HZ'.out _).mono ?_); rintro e w' ⟨rfl, rfl⟩))
            go_ret3
            exact ⟨fin3 ha.out (ext_tl' _ _), hbel.trans (hb2.mono hbel.size)⟩
          · have hbn : ∀ u, blob s.data.toList = some u → u = [] := fun u hu => by
              rw [← tl_zero, hc] at hu; injection hu with hu; rw [← hu]; exact tl_end s t (by omega)
            rw [hc'] at hz'
            have HZ' := Lib.hid hz'
            clear hc hc' hz'
            have hgz := HG.out
            cases hg : begB s 0 M5 with
            | false =>
              have ha := Lib.hid (HL.out.2.2.2 HA.out hbn (wrap_no hg))
              rw [hg] at hgz
              have HG' := Lib.hid hgz
              clear hg hgz hbn
              go_wp2_with (first
                | (go_at_call 58; (with_reducible refine (HM.out _).mono ?_); rintro e w2 ⟨rfl, hb2⟩)
                | (go_at_call 59; (with_reducible refine (HQ.out _).mono ?_); rintro e w' ⟨rfl, rfl⟩)
                | (go_at_call 59; (with_reducible refine (HZ'.out _).mono ?_); rintro e w' ⟨rfl, rfl⟩)
                | (go_at_call 57; (with_reducible refine (HG'.out _).mono ?_); rintro e w3 ⟨rfl, hb3⟩))
              go_ret3
              exact ⟨fin3 ha.out rfl, (hbel.trans (hb2.mono hbel.size)).trans (hb3.mono (by have := hbel.size; have := hb2.size; omega))⟩
            | true =>
              obtain ⟨h5', hw⟩ := wrap_at hg
              exact absurd h5' (by omega)
      · have hd : Hid (mkF [re, fwd, fw] (skip (tl s t)) = R) := by show _ = _; rw [← hrel.out, skip_some hb]
        have hjt : j < t := by
          have := blob_lt _ _ hb
          rw [tl_length, tl_length] at this
          omega
        rw [hm'] at hM
        rw [hb'] at hQ
        have HM := Lib.hid hM
        have HQ := Lib.hid hQ
        clear hM hQ hm hm' hb hb' hrel hr0
        go_wp2_with (first
          | (go_at_call 58; (with_reducible refine (HM.out _).mono ?_); rintro e w2 ⟨rfl, hb2⟩)
          | (go_at_call 59; (with_reducible refine (HQ.out _).mono ?_); rintro e w' ⟨rfl, rfl⟩))
        go_roundw
        case rel => exact ⟨t, by first | rfl | trivial, by omega, hbel.trans (hb2.mono hbel.size), hd⟩
        case measure => simp [intOf]; omega
    · have ha : V = (tl s t, true, true) := HL.out.1 _ (by rw [← HR.out, ← hrel.out, mk_skip hm, hm])
      rw [hm'] at hM
      have HM := Lib.hid hM
      have HA := Lib.hid ha
      clear hM hm hm' hrel ha hr0
      go_wp2_with (go_at_call 58; (with_reducible refine (HM.out _).mono ?_); rintro e w2 ⟨rfl, hb2⟩)
      go_ret3
      exact ⟨fin3 HA.out (ext_tl' _ _), hbel.trans (hb2.mono hbel.size)⟩
set_option maxHeartbeats 4000000 in
set_option maxRecDepth 100000 in
theorem step_rest_empty (s : ByteArray) (w : World) (h0 : s.size = 0) (hs : s.size ≤ 10000000) :
    Calls Tryd.prog 36 #[.string s] w (StepRIs (stepV s.data.toList) w) := by
  have hl : Late s.data.toList (stepV s.data.toList) := by
    have : s.data.toList = [] := List.eq_nil_of_length_eq_zero h0
    rw [this]
    exact late_of (by simp) (by rw [endsF_short _ (by simp)]; decide) (by simp)
  have HL := Lib.hid hl
  have hbz := fun w' => blob_zero s w' hs
  have hgz := fun w' => begins_zero s w' hs
  have HG := Lib.hid hgz
  have HZ := Lib.hid hbz
  clear hl hbz hgz
  generalize stepV s.data.toList = V at HL
  obtain ⟨R, hR⟩ : ∃ R, R = answer s.data.toList := ⟨_, rfl⟩
  have hr0 : Hid (mkF [re, fwd, fw] (skip (tl s 0)) = R) := by show _ = _; rw [hR, answer_mk, tl_zero]
  have HR := Lib.hid hR
  clear hR
  go_enter Tryd.func36, Tryd.ntmps36
  go_wp2
  go_loopw [7] (fun i wr => ∃ (j : Nat), i = .int .i64 j ∧ j ≤ s.size ∧ Below w.heap.size w wr ∧ Hid (mkF [re, fwd, fw] (skip (tl s j)) = R)) (fun i _ => s.size - (intOf i).toNat)
  case atStart => exact ⟨0, by first | rfl | trivial, by omega, Below.refl _ _, hr0⟩
  case round =>
    obtain ⟨j, rfl, hj, hbel, hrel⟩ := hrel
    have hM := fun w' => markR_any s j w' hs hj
    rcases mk_ix2 s j with ⟨hm, hm'⟩ | ⟨t, ht, hm, hm'⟩
    · have hQ := fun w' => blobR_any s j w' hs hj
      rcases blob_ix2 s j with ⟨hb, hb'⟩ | ⟨t, ht, hb, hb'⟩
      · have ha : answer s.data.toList = none := by rw [← HR.out, ← hrel.out, skip_none hb, hm]
        rw [hm'] at hM
        rw [hb'] at hQ
        have HM := Lib.hid hM
        have HQ := Lib.hid hQ
        have HA := Lib.hid ha
        clear hM hQ hm hm' hb hb' hrel ha hr0
        have hz' := HZ.out
        rcases blob_ix2 s 0 with ⟨hc, hc'⟩ | ⟨t, ht, hc, hc'⟩
        · have hbn : ∀ u, blob s.data.toList = some u → u = [] := fun u hu => by rw [← tl_zero, hc] at hu; cases hu
          rw [hc'] at hz'
          have HZ' := Lib.hid hz'
          clear hc hc' hz'
          have hgz := HG.out
          cases hg : begB s 0 M5 with
          | false =>
            have ha := Lib.hid (HL.out.2.2.2 HA.out hbn (wrap_no hg))
            rw [hg] at hgz
            have HG' := Lib.hid hgz
            clear hg hgz hbn
            go_wp2_with (first
              | (go_at_call 58; (with_reducible refine (HM.out _).mono ?_); rintro e w2 ⟨rfl, hb2⟩)
              | (go_at_call 59; (with_reducible refine (HQ.out _).mono ?_); rintro e w' ⟨rfl, rfl⟩)
              | (go_at_call 59; (with_reducible refine (HZ'.out _).mono ?_); rintro e w' ⟨rfl, rfl⟩)
              | (go_at_call 57; (with_reducible refine (HG'.out _).mono ?_); rintro e w3 ⟨rfl, hb3⟩))
            go_ret3
            exact ⟨fin3 ha.out rfl, (hbel.trans (hb2.mono hbel.size)).trans (hb3.mono (by have := hbel.size; have := hb2.size; omega))⟩
          | true =>
            obtain ⟨h5', hw⟩ := wrap_at hg
            exact absurd h5' (by omega)
        · by_cases htl : t < s.size
          · exact absurd htl (by omega)
          · have hbn : ∀ u, blob s.data.toList = some u → u = [] := fun u hu => by
              rw [← tl_zero, hc] at hu; injection hu with hu; rw [← hu]; exact tl_end s t (by omega)
            rw [hc'] at hz'
            have HZ' := Lib.hid hz'
            clear hc hc' hz'
            have hgz := HG.out
            cases hg : begB s 0 M5 with
            | false =>
              have ha := Lib.hid (HL.out.2.2.2 HA.out hbn (wrap_no hg))
              rw [hg] at hgz
              have HG' := Lib.hid hgz
              clear hg hgz hbn
              go_wp2_with (first
                | (go_at_call 58; (with_reducible refine (HM.out _).mono ?_); rintro e w2 ⟨rfl, hb2⟩)
                | (go_at_call 59; (with_reducible refine (HQ.out _).mono ?_); rintro e w' ⟨rfl, rfl⟩)
                | (go_at_call 59; (with_reducible refine (HZ'.out _).mono ?_); rintro e w' ⟨rfl, rfl⟩)
                | (go_at_call 57; (with_reducible refine (HG'.out _).mono ?_); rintro e w3 ⟨rfl, hb3⟩))
              go_ret3
              exact ⟨fin3 ha.out rfl, (hbel.trans (hb2.mono hbel.size)).trans (hb3.mono (by have := hbel.size; have := hb2.size; omega))⟩
            | true =>
              obtain ⟨h5', hw⟩ := wrap_at hg
              exact absurd h5' (by omega)
      · have hd : Hid (mkF [re, fwd, fw] (skip (tl s t)) = R) := by show _ = _; rw [← hrel.out, skip_some hb]
        have hjt : j < t := by
          have := blob_lt _ _ hb
          rw [tl_length, tl_length] at this
          omega
        rw [hm'] at hM
        rw [hb'] at hQ
        have HM := Lib.hid hM
        have HQ := Lib.hid hQ
        clear hM hQ hm hm' hb hb' hrel hr0
        exact absurd hjt (by omega)
    · rw [tl_end s j (by omega)] at hm; exact absurd hm (by intro h; cases h)
set_option maxHeartbeats 4000000 in
set_option maxRecDepth 100000 in
theorem step_rest_big (s : ByteArray) (w : World) (h0 : 5 ≤ s.size) (h1 : ¬ s[s.size - 1] = 32) (h2 : ¬ endsF s.data.toList = true) (h3 : ¬ s[0] = 32) (hs : s.size ≤ 10000000) :
    Calls Tryd.prog 36 #[.string s] w (StepRIs (stepV s.data.toList) w) := by
  have hz : 0 < s.size := by omega
  have hl := late_of (l := s.data.toList) (by rw [last_iff s hz]; simpa using h1) h2 (by rw [head_iff s hz]; simpa using h3)
  have q1 : ((s[s.size - 1].toNat : Int) == 32) = false := beq_eq_false_iff_ne.2 (by have := u8_ne (n := 32) h1 (by omega); omega)
  have q2 : ((s[0].toNat : Int) == 32) = false := beq_eq_false_iff_ne.2 (by have := u8_ne (n := 32) h3 (by omega); omega)
  have hB := fun w' => begins_sub s ⟨#[40, 102, 119, 100, 41]⟩ w' hs h0 (by decide)
  rw [begF_iff s h0, Bool.eq_false_iff.2 h2] at hB
  have HB := Lib.hid hB
  clear hB
  have HL := Lib.hid hl
  have hbz := fun w' => blob_zero s w' hs
  have hgz := fun w' => begins_zero s w' hs
  have HG := Lib.hid hgz
  have HZ := Lib.hid hbz
  clear hl hbz hgz h1 h2 h3
  generalize stepV s.data.toList = V at HL
  obtain ⟨R, hR⟩ : ∃ R, R = answer s.data.toList := ⟨_, rfl⟩
  have hr0 : Hid (mkF [re, fwd, fw] (skip (tl s 0)) = R) := by show _ = _; rw [hR, answer_mk, tl_zero]
  have HR := Lib.hid hR
  clear hR
  go_enter Tryd.func36, Tryd.ntmps36
  go_wp2_with (go_at_call 57; (with_reducible refine (HB.out _).mono ?_); rintro e w1 ⟨rfl, hb1⟩)
  go_loopw [7] (fun i wr => ∃ (j : Nat), i = .int .i64 j ∧ j ≤ s.size ∧ Below w.heap.size w wr ∧ Hid (mkF [re, fwd, fw] (skip (tl s j)) = R)) (fun i _ => s.size - (intOf i).toNat)
  case atStart => exact ⟨0, by first | rfl | trivial, by omega, hb1, hr0⟩
  case round =>
    obtain ⟨j, rfl, hj, hbel, hrel⟩ := hrel
    have hM := fun w' => markR_any s j w' hs hj
    rcases mk_ix2 s j with ⟨hm, hm'⟩ | ⟨t, ht, hm, hm'⟩
    · have hQ := fun w' => blobR_any s j w' hs hj
      rcases blob_ix2 s j with ⟨hb, hb'⟩ | ⟨t, ht, hb, hb'⟩
      · have ha : answer s.data.toList = none := by rw [← HR.out, ← hrel.out, skip_none hb, hm]
        rw [hm'] at hM
        rw [hb'] at hQ
        have HM := Lib.hid hM
        have HQ := Lib.hid hQ
        have HA := Lib.hid ha
        clear hM hQ hm hm' hb hb' hrel ha hr0
        have hz' := HZ.out
        rcases blob_ix2 s 0 with ⟨hc, hc'⟩ | ⟨t, ht, hc, hc'⟩
        · have hbn : ∀ u, blob s.data.toList = some u → u = [] := fun u hu => by rw [← tl_zero, hc] at hu; cases hu
          rw [hc'] at hz'
          have HZ' := Lib.hid hz'
          clear hc hc' hz'
          have hgz := HG.out
          cases hg : begB s 0 M5 with
          | false =>
            have ha := Lib.hid (HL.out.2.2.2 HA.out hbn (wrap_no hg))
            rw [hg] at hgz
            have HG' := Lib.hid hgz
            clear hg hgz hbn
            go_wp2_with (first
              | (go_at_call 58; (with_reducible refine (HM.out _).mono ?_); rintro e w2 ⟨rfl, hb2⟩)
              | (go_at_call 59; (with_reducible refine (HQ.out _).mono ?_); rintro e w' ⟨rfl, rfl⟩)
              | (go_at_call 59; (with_reducible refine (HZ'.out _).mono ?_); rintro e w' ⟨rfl, rfl⟩)
              | (go_at_call 57; (with_reducible refine (HG'.out _).mono ?_); rintro e w3 ⟨rfl, hb3⟩))
            go_ret3
            exact ⟨fin3 ha.out rfl, (hbel.trans (hb2.mono hbel.size)).trans (hb3.mono (by have := hbel.size; have := hb2.size; omega))⟩
          | true =>
            obtain ⟨h5', hw⟩ := wrap_at hg
            by_cases h93 : 5 < s.size ∧ s[s.size - 1] = 93
            · obtain ⟨h6, h93⟩ := h93
              have ha := Lib.hid (HL.out.2.2.1 _ HA.out hbn (by rw [hw, last_tl h6, h93, if_pos rfl]))
              have q3 : ((s[s.size - 1].toNat : Int) == 93) = true := by rw [h93]; rfl
              rw [hg] at hgz
              have HG' := Lib.hid hgz
              clear hg hgz hbn hw h93
              go_wp2_with (first
                | (go_at_call 58; (with_reducible refine (HM.out _).mono ?_); rintro e w2 ⟨rfl, hb2⟩)
                | (go_at_call 59; (with_reducible refine (HQ.out _).mono ?_); rintro e w' ⟨rfl, rfl⟩)
                | (go_at_call 59; (with_reducible refine (HZ'.out _).mono ?_); rintro e w' ⟨rfl, rfl⟩)
                | (go_at_call 57; (with_reducible refine (HG'.out _).mono ?_); rintro e w3 ⟨rfl, hb3⟩))
              go_ret3
              exact ⟨fin3 ha.out (ext_mid _), (hbel.trans (hb2.mono hbel.size)).trans (hb3.mono (by have := hbel.size; have := hb2.size; omega))⟩
            · have hn : ¬ s[s.size - 1] = 93 := fun hc => by
                by_cases h6 : 5 < s.size
                · exact h93 ⟨h6, hc⟩
                · exact five_not hg (by omega) hc
              have ha := Lib.hid (HL.out.2.2.2 HA.out hbn (by
                rw [hw, if_neg]
                by_cases h6 : 5 < s.size
                · rw [last_tl h6]; simpa using hn
                · rw [tl_end s 5 (by omega)]; simp))
              have q3 : ((s[s.size - 1].toNat : Int) == 93) = false := beq_eq_false_iff_ne.2 (by have := u8_ne (n := 93) hn (by omega); omega)
              rw [hg] at hgz
              have HG' := Lib.hid hgz
              clear hg hgz hbn hw h93 hn
              go_wp2_with (first
                | (go_at_call 58; (with_reducible refine (HM.out _).mono ?_); rintro e w2 ⟨rfl, hb2⟩)
                | (go_at_call 59; (with_reducible refine (HQ.out _).mono ?_); rintro e w' ⟨rfl, rfl⟩)
                | (go_at_call 59; (with_reducible refine (HZ'.out _).mono ?_); rintro e w' ⟨rfl, rfl⟩)
                | (go_at_call 57; (with_reducible refine (HG'.out _).mono ?_); rintro e w3 ⟨rfl, hb3⟩))
              go_ret3
              exact ⟨fin3 ha.out rfl, (hbel.trans (hb2.mono hbel.size)).trans (hb3.mono (by have := hbel.size; have := hb2.size; omega))⟩
        · by_cases htl : t < s.size
          · have ha := Lib.hid (HL.out.2.1 _ HA.out (by rw [← tl_zero]; exact hc) (tl_ne htl))
            rw [hc'] at hz'
            have HZ' := Lib.hid hz'
            clear hc hc' hz'
            go_wp2_with (first
              | (go_at_call 58; (with_reducible refine (HM.out _).mono ?_); rintro e w2 ⟨rfl, hb2⟩)
              | (go_at_call 59; (with_reducible refine (HQ.out _).mono ?_); rintro e w' ⟨rfl, rfl⟩)
              | (go_at_call 59; (with_reducible refine (HZ'.out _).mono ?_); rintro e w' ⟨rfl, rfl⟩))
            go_ret3
            exact ⟨fin3 ha.out (ext_tl' _ _), hbel.trans (hb2.mono hbel.size)⟩
          · have hbn : ∀ u, blob s.data.toList = some u → u = [] := fun u hu => by
              rw [← tl_zero, hc] at hu; injection hu with hu; rw [← hu]; exact tl_end s t (by omega)
            rw [hc'] at hz'
            have HZ' := Lib.hid hz'
            clear hc hc' hz'
            have hgz := HG.out
            cases hg : begB s 0 M5 with
            | false =>
              have ha := Lib.hid (HL.out.2.2.2 HA.out hbn (wrap_no hg))
              rw [hg] at hgz
              have HG' := Lib.hid hgz
              clear hg hgz hbn
              go_wp2_with (first
                | (go_at_call 58; (with_reducible refine (HM.out _).mono ?_); rintro e w2 ⟨rfl, hb2⟩)
                | (go_at_call 59; (with_reducible refine (HQ.out _).mono ?_); rintro e w' ⟨rfl, rfl⟩)
                | (go_at_call 59; (with_reducible refine (HZ'.out _).mono ?_); rintro e w' ⟨rfl, rfl⟩)
                | (go_at_call 57; (with_reducible refine (HG'.out _).mono ?_); rintro e w3 ⟨rfl, hb3⟩))
              go_ret3
              exact ⟨fin3 ha.out rfl, (hbel.trans (hb2.mono hbel.size)).trans (hb3.mono (by have := hbel.size; have := hb2.size; omega))⟩
            | true =>
              obtain ⟨h5', hw⟩ := wrap_at hg
              by_cases h93 : 5 < s.size ∧ s[s.size - 1] = 93
              · obtain ⟨h6, h93⟩ := h93
                have ha := Lib.hid (HL.out.2.2.1 _ HA.out hbn (by rw [hw, last_tl h6, h93, if_pos rfl]))
                have q3 : ((s[s.size - 1].toNat : Int) == 93) = true := by rw [h93]; rfl
                rw [hg] at hgz
                have HG' := Lib.hid hgz
                clear hg hgz hbn hw h93
                go_wp2_with (first
                  | (go_at_call 58; (with_reducible refine (HM.out _).mono ?_); rintro e w2 ⟨rfl, hb2⟩)
                  | (go_at_call 59; (with_reducible refine (HQ.out _).mono ?_); rintro e w' ⟨rfl, rfl⟩)
                  | (go_at_call 59; (with_reducible refine (HZ'.out _).mono ?_); rintro e w' ⟨rfl, rfl⟩)
                  | (go_at_call 57; (with_reducible refine (HG'.out _).mono ?_); rintro e w3 ⟨rfl, hb3⟩))
                go_ret3
                exact ⟨fin3 ha.out (ext_mid _), (hbel.trans (hb2.mono hbel.size)).trans (hb3.mono (by have := hbel.size; have := hb2.size; omega))⟩
              · have hn : ¬ s[s.size - 1] = 93 := fun hc => by
                  by_cases h6 : 5 < s.size
                  · exact h93 ⟨h6, hc⟩
                  · exact five_not hg (by omega) hc
                have ha := Lib.hid (HL.out.2.2.2 HA.out hbn (by
                  rw [hw, if_neg]
                  by_cases h6 : 5 < s.size
                  · rw [last_tl h6]; simpa using hn
                  · rw [tl_end s 5 (by omega)]; simp))
                have q3 : ((s[s.size - 1].toNat : Int) == 93) = false := beq_eq_false_iff_ne.2 (by have := u8_ne (n := 93) hn (by omega); omega)
                rw [hg] at hgz
                have HG' := Lib.hid hgz
                clear hg hgz hbn hw h93 hn
                go_wp2_with (first
                  | (go_at_call 58; (with_reducible refine (HM.out _).mono ?_); rintro e w2 ⟨rfl, hb2⟩)
                  | (go_at_call 59; (with_reducible refine (HQ.out _).mono ?_); rintro e w' ⟨rfl, rfl⟩)
                  | (go_at_call 59; (with_reducible refine (HZ'.out _).mono ?_); rintro e w' ⟨rfl, rfl⟩)
                  | (go_at_call 57; (with_reducible refine (HG'.out _).mono ?_); rintro e w3 ⟨rfl, hb3⟩))
                go_ret3
                exact ⟨fin3 ha.out rfl, (hbel.trans (hb2.mono hbel.size)).trans (hb3.mono (by have := hbel.size; have := hb2.size; omega))⟩
      · have hd : Hid (mkF [re, fwd, fw] (skip (tl s t)) = R) := by show _ = _; rw [← hrel.out, skip_some hb]
        have hjt : j < t := by
          have := blob_lt _ _ hb
          rw [tl_length, tl_length] at this
          omega
        rw [hm'] at hM
        rw [hb'] at hQ
        have HM := Lib.hid hM
        have HQ := Lib.hid hQ
        clear hM hQ hm hm' hb hb' hrel hr0
        go_wp2_with (first
          | (go_at_call 58; (with_reducible refine (HM.out _).mono ?_); rintro e w2 ⟨rfl, hb2⟩)
          | (go_at_call 59; (with_reducible refine (HQ.out _).mono ?_); rintro e w' ⟨rfl, rfl⟩))
        go_roundw
        case rel => exact ⟨t, by first | rfl | trivial, by omega, hbel.trans (hb2.mono hbel.size), hd⟩
        case measure => simp [intOf]; omega
    · have ha : V = (tl s t, true, true) := HL.out.1 _ (by rw [← HR.out, ← hrel.out, mk_skip hm, hm])
      rw [hm'] at hM
      have HM := Lib.hid hM
      have HA := Lib.hid ha
      clear hM hm hm' hrel ha hr0
      go_wp2_with (go_at_call 58; (with_reducible refine (HM.out _).mono ?_); rintro e w2 ⟨rfl, hb2⟩)
      go_ret3
      exact ⟨fin3 HA.out (ext_tl' _ _), hbel.trans (hb2.mono hbel.size)⟩
theorem stepRef_any (s : ByteArray) (w : World) (hs : s.size ≤ 10000000) :
    Calls Tryd.prog 36 #[.string s] w (StepRIs (stepV s.data.toList) w) := by
  by_cases h0 : 0 < s.size
  · by_cases h1 : s[s.size - 1] = 32
    · exact step_last s w h0 h1 hs
    · by_cases h5 : 5 ≤ s.size
      · by_cases h2 : endsF s.data.toList = true
        · exact step_fwd s w h5 h1 h2 hs
        · by_cases h3 : s[0] = 32
          · exact step_head_big s w h5 h1 h2 h3 hs
          · exact step_rest_big s w h5 h1 h2 h3 hs
      · by_cases h3 : s[0] = 32
        · exact step_head_small s w h0 h5 h1 h3 hs
        · exact step_rest_small s w h0 h5 h1 h3 hs
  · exact step_rest_empty s w (by omega) hs
end Go.Proofs.YtmpggcjfmcigmaaDoor
