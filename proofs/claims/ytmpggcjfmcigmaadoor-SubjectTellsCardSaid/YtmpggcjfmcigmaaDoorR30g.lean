/- Walks of the reference pouchref30: Step, the other cases. Printed by gen30g.py. -/
import Derived.Test.YtmpggcjfmcigmaaDoorR30f
namespace Go.Proofs.YtmpggcjfmcigmaaDoor
open Go.RowKit Pk U8 Su Fo

def M5 : ByteArray := ⟨#[91, 102, 119, 100, 58]⟩
theorem wrap_no {s : ByteArray} (h : begB s 0 M5 = false) : wrap s.data.toList = none := by
  unfold begB at h
  rw [tl_zero] at h
  unfold wrap
  show (match st M5.data.toList s.data.toList with | some t => _ | none => none) = none
  cases hst : st M5.data.toList s.data.toList with
  | none => rfl
  | some r => rw [hst] at h; cases h
theorem wrap_at {s : ByteArray} (h : begB s 0 M5 = true) : 5 ≤ s.size ∧ wrap s.data.toList = (if (tl s 5).getLast? = some 93 then some (tl s 5).dropLast else none) := by
  obtain ⟨h1, h2⟩ := beg_st (Nat.zero_le _) h
  have e : M5.size = 5 := rfl
  rw [tl_zero, e] at h1
  refine ⟨by omega, ?_⟩
  unfold wrap
  show (match st M5.data.toList s.data.toList with | some t => _ | none => none) = _
  rw [h1]
theorem last_tl {s : ByteArray} (h : 5 < s.size) : (tl s 5).getLast? = some s[s.size - 1] := by
  rw [List.getLast?_eq_getElem?, tl_length]
  unfold tl
  rw [List.getElem?_drop]
  have e : s.data.toList.length = s.size := rfl
  rw [show 5 + (s.size - 5 - 1) = s.size - 1 by omega, List.getElem?_eq_getElem (by rw [e]; omega)]
  rfl
theorem five_not {s : ByteArray} (h : begB s 0 M5 = true) (h5 : s.size = 5) : ¬ s[s.size - 1] = 93 := by
  obtain ⟨h1, -⟩ := beg_st (Nat.zero_le _) h
  obtain ⟨h2, -, -⟩ := st_some h1
  rw [tl_zero] at h2
  intro hc
  have e : s.data.toList.length = s.size := rfl
  have := congrArg (fun l : List UInt8 => l[4]?) h2
  have e4 : s.data.toList[4]? = some s[s.size - 1] := by
    rw [List.getElem?_eq_getElem (by rw [e]; omega)]
    have : s.size - 1 = 4 := by omega
    simp only [this]; rfl
  simp only [List.getElem?_map, List.getElem?_take] at this
  rw [show M5.data.toList.length = 5 from rfl, if_pos (by omega), e4, hc] at this
  revert this; decide
theorem stepR_late {l : List UInt8} (h1 : ¬ l.getLast? = some 32) (h2 : ¬ endsF l = true) (h3 : ¬ l.head? = some 32) (h4 : answer l = none) :
    stepR l = (match blob l with
      | some t => if t = [] then (wrap l).map (·, true) else some (t, false)
      | none => (wrap l).map (·, true)) := by
  unfold stepR; rw [if_neg h1, if_neg h2, if_neg h3, h4]
  rfl
theorem stepR_ans {l t : List UInt8} (h1 : ¬ l.getLast? = some 32) (h2 : ¬ endsF l = true) (h3 : ¬ l.head? = some 32) (h4 : answer l = some t) :
    stepR l = some (t, true) := by
  unfold stepR; rw [if_neg h1, if_neg h2, if_neg h3, h4]
set_option maxHeartbeats 4000000 in
set_option maxRecDepth 100000 in
theorem step_head_big (s : ByteArray) (w : World) (h0 : 5 ≤ s.size) (h1 : ¬ s[s.size - 1] = 32) (h2 : ¬ endsF s.data.toList = true) (h3 : s[0] = 32) (hs : s.size ≤ 10000000) :
    Calls Tryd.prog 36 #[.string s] w (StepRIs (stepV s.data.toList) w) := by
  have hz : 0 < s.size := by omega
  have hV : stepV s.data.toList = (tl s 1, false, true) := stepV_some (by
    unfold stepR; rw [if_neg (by rw [last_iff s hz]; simpa using h1), if_neg h2, if_pos (by rw [head_iff s hz, h3]), ← List.drop_one]; rfl)
  have q1 : ((s[s.size - 1].toNat : Int) == 32) = false := beq_eq_false_iff_ne.2 (by have := u8_ne (n := 32) h1 (by omega); omega)
  have q2 : ((s[0].toNat : Int) == 32) = true := by rw [h3]; rfl
  have hB := fun w' => begins_sub s ⟨#[40, 102, 119, 100, 41]⟩ w' hs h0 (by decide)
  rw [begF_iff s h0, Bool.eq_false_iff.2 h2] at hB
  have HB := Lib.hid hB
  clear hB
  have HV := Lib.hid hV
  clear hV h1 h2 h3
  generalize stepV s.data.toList = V at HV
  go_enter Tryd.func36, Tryd.ntmps36
  go_wp2_with (go_at_call 57; (with_reducible refine (HB.out _).mono ?_); rintro e w1 ⟨rfl, hb1⟩)
  go_ret3
  exact ⟨fin3 HV.out (ext_tl' _ _), hb1⟩
set_option maxHeartbeats 4000000 in
set_option maxRecDepth 100000 in
theorem step_head_small (s : ByteArray) (w : World) (h0 : 0 < s.size) (h5 : ¬ 5 ≤ s.size) (h1 : ¬ s[s.size - 1] = 32) (h3 : s[0] = 32) (hs : s.size ≤ 10000000) :
    Calls Tryd.prog 36 #[.string s] w (StepRIs (stepV s.data.toList) w) := by
  have hz : 0 < s.size := by omega
  have h2 : ¬ endsF s.data.toList = true := by rw [endsF_short _ (by show s.size < 5; omega)]; decide
  have hV : stepV s.data.toList = (tl s 1, false, true) := stepV_some (by
    unfold stepR; rw [if_neg (by rw [last_iff s hz]; simpa using h1), if_neg h2, if_pos (by rw [head_iff s hz, h3]), ← List.drop_one]; rfl)
  have q1 : ((s[s.size - 1].toNat : Int) == 32) = false := beq_eq_false_iff_ne.2 (by have := u8_ne (n := 32) h1 (by omega); omega)
  have q2 : ((s[0].toNat : Int) == 32) = true := by rw [h3]; rfl
  have HV := Lib.hid hV
  clear hV h1 h2 h3
  generalize stepV s.data.toList = V at HV
  go_enter Tryd.func36, Tryd.ntmps36
  go_wp2
  go_ret3
  exact ⟨fin3 HV.out (ext_tl' _ _), Below.refl _ _⟩
end Go.Proofs.YtmpggcjfmcigmaaDoor
