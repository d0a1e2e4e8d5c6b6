/- Walks of the reference pouchref30: Step, the walk. -/
import Derived.Test.YtmpggcjfmcigmaaDoorR30e
import Derived.OwnWalk
namespace Go.Proofs.YtmpggcjfmcigmaaDoor
open Go.RowKit Pk U8 Su Fo

theorem fin3 {V : List UInt8 × Bool × Bool} {t : List UInt8} {b m : Bool} {A : ByteArray} (hV : V = (t, b, m)) (hA : A.data.toList = t) :
    Ending.returned (.tuple #[.string A, .bool b, .bool m]) = .returned (.tuple #[.string ⟨V.1.toArray⟩, .bool V.2.1, .bool V.2.2]) := by
  subst hV; rw [← arr_of hA]
theorem stepV_some {l t : List UInt8} {b : Bool} (h : stepR l = some (t, b)) : stepV l = (t, b, true) := by unfold stepV; rw [h]
theorem stepV_none {l : List UInt8} (h : stepR l = none) : stepV l = (l, false, false) := by unfold stepV; rw [h]
theorem ext_take0 (s : ByteArray) (j : Nat) : (s.extract 0 j).data.toList = s.data.toList.take j := by rw [ext_listS]; simp
theorem ext_tl' (s : ByteArray) (k : Nat) : (s.extract k s.size).data.toList = tl s k := by
  rw [ext_listS]; unfold tl
  exact List.take_of_length_le (by have e : s.data.toList.length = s.size := rfl; rw [List.length_drop, e]; omega)
set_option maxHeartbeats 2000000 in
set_option maxRecDepth 100000 in
theorem step_last (s : ByteArray) (w : World) (h0 : 0 < s.size) (hc : s[s.size - 1] = 32) (hs : s.size ≤ 10000000) :
    Calls Tryd.prog 36 #[.string s] w (StepRIs (stepV s.data.toList) w) := by
  have hV : stepV s.data.toList = (s.data.toList.take (s.size - 1), false, true) := stepV_some (by
    unfold stepR; rw [if_pos (by rw [last_iff s h0, hc]), List.dropLast_eq_take]; rfl)
  have q1 : ((s[s.size - 1].toNat : Int) == 32) = true := by rw [hc]; rfl
  have HV := Lib.hid hV
  clear hV hc
  generalize stepV s.data.toList = V at HV
  go_enter Tryd.func36, Tryd.ntmps36
  go_wp2
  go_ret3
  exact ⟨fin3 HV.out (ext_take0 _ _), Below.refl _ _⟩
set_option maxHeartbeats 2000000 in
set_option maxRecDepth 100000 in
theorem step_fwd (s : ByteArray) (w : World) (h0 : 5 ≤ s.size) (hc : ¬ s[s.size - 1] = 32) (hf : endsF s.data.toList = true) (hs : s.size ≤ 10000000) :
    Calls Tryd.prog 36 #[.string s] w (StepRIs (stepV s.data.toList) w) := by
  have hV : stepV s.data.toList = (s.data.toList.take (s.size - 5), true, true) := stepV_some (by
    unfold stepR; rw [if_neg (by rw [last_iff s (by omega)]; simpa using hc), if_pos hf]; rfl)
  have q1 : ((s[s.size - 1].toNat : Int) == 32) = false := beq_eq_false_iff_ne.2 (by have := u8_ne (n := 32) hc (by omega); omega)
  have hB := fun w' => begins_sub s ⟨#[40, 102, 119, 100, 41]⟩ w' hs h0 (by decide)
  rw [begF_iff s h0, hf] at hB
  have HB := Lib.hid hB
  have HV := Lib.hid hV
  clear hV hc hB hf
  generalize stepV s.data.toList = V at HV
  go_enter Tryd.func36, Tryd.ntmps36
  go_wp2_with (go_at_call 57; (with_reducible refine (HB.out _).mono ?_); rintro e w1 ⟨rfl, hb1⟩)
  go_ret3
  exact ⟨fin3 HV.out (ext_take0 _ _), hb1⟩
end Go.Proofs.YtmpggcjfmcigmaaDoor
