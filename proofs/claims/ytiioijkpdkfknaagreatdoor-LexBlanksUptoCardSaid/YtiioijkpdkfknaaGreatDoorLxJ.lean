/- Walks: the laws of the lexer: name, written. -/
import Derived.Test.YtiioijkpdkfknaaGreatDoorLxK
namespace Lx
open Go Pk
def NameAt (s : ByteArray) (i : Nat) (X : Bool) : Prop := allN i (tl s i) = X
theorem nameAt_step {s : ByteArray} {i : Nat} {X : Bool} (h : NameAt s i X) (hi : i < s.size) : (okN i s[i] = true → NameAt s (i + 1) X) ∧ (okN i s[i] = false → X = false) := by
  unfold NameAt at *
  rw [tl_cons s i hi] at h
  unfold allN at h
  refine ⟨fun h1 => ?_, fun h1 => ?_⟩
  · rw [h1, Bool.true_and] at h; exact h
  · rw [h1, Bool.false_and] at h; exact h.symm
theorem nameAt_end {s : ByteArray} {i : Nat} {X : Bool} (h : NameAt s i X) (hi : ¬ i < s.size) : X = true := by
  unfold NameAt at h
  rw [tl_end s i (by omega)] at h
  exact h.symm
end Lx
namespace Go.Proofs.YtiioijkpdkfknaaGreatDoor
open Go.RowKit Pk Lx

def BoolRet (b : Bool) (w : World) (e : Ending) (w' : World) : Prop := e = .returned (.bool b) ∧ w = w'
set_option maxHeartbeats 4000000 in
set_option maxRecDepth 100000 in
theorem name_any (s : ByteArray) (w : World) (hs : s.size ≤ 100000000) : Calls Tryz.prog 11 #[.string s] w (BoolRet (nameB s.data.toList) w) := by
  rw [nameB_all]
  have hst : Hid (NameAt s 0 (allN 0 s.data.toList)) := by show allN 0 (tl s 0) = _; rw [tl_zero]
  generalize allN 0 s.data.toList = X at *
  obtain ⟨E, hE⟩ : ∃ E, E = s.data.toList.isEmpty := ⟨_, rfl⟩
  rw [← hE]
  have hE2 : s.toList.isEmpty = E := by rw [Lib.toList_data, hE]
  have HE := Lib.hid hE
  clear hE
  go_enter Tryz.func11, Tryz.ntmps11
  go_wp2
  go_loop [3, 4] (fun iv _ => ∃ i : Nat, i ≤ s.size ∧ iv = .int .i64 i ∧ Hid (NameAt s i X)) (fun iv _ => s.size - (intOf iv).toNat)
  case atStart => exact ⟨0, by omega, by first | rfl | trivial, hst⟩
  case round =>
    obtain ⟨i, hi, rfl, hrel⟩ := hrel
    clear hst
    by_cases hlt : i < s.size
    · obtain ⟨s1, s2⟩ := nameAt_step hrel.out hlt
      have hcb := s[i].toNat_lt
      by_cases h1 : 97 ≤ s[i].toNat
      · by_cases h2 : s[i].toNat ≤ 122
        · have hn := Lib.hid (s1 (by unfold okN lowW; rw [decide_eq_true (Or.inl ⟨h1, h2⟩)]; rfl))
          have q2 : decide ((s[i].toNat : Int) ≤ 122) = true := decide_eq_true (by omega)
          clear s1 s2 hrel
          go_wp2
          go_round
          case rel => exact ⟨i + 1, by omega, by go_num, hn⟩
          case measure => simp [intOf]; omega
        · have hlw : lowW s[i] = false := by unfold lowW; exact decide_eq_false (by omega)
          have q2 : decide ((s[i].toNat : Int) ≤ 122) = false := decide_eq_false (by omega)
          have q3 : ((s[i].toNat : Int) == 95) = false := beq_eq_false_iff_ne.2 (by omega)
          have hn := Lib.hid (s2 (by unfold okN; rw [hlw]; unfold isDig; rw [decide_eq_false (by omega : ¬ (48 ≤ s[i].toNat ∧ s[i].toNat ≤ 57))]; simp))
          have q5 : decide ((57 : Int) < (s[i].toNat : Int)) = true := decide_eq_true (by omega)
          have q6 : decide ((s[i].toNat : Int) < 48) = false := decide_eq_false (by omega)
          clear s1 s2 hrel hlw
          by_cases h0 : i = 0
          · have q4 : ((i : Int) == 0) = true := beq_iff_eq.2 (by omega)
            clear h0
            go_wp2
            go_ret
            exact ⟨by rw [hn.out]; rfl, rfl⟩
          · have q4 : ((i : Int) == 0) = false := beq_eq_false_iff_ne.2 (by omega)
            clear h0
            go_wp2
            go_ret
            exact ⟨by rw [hn.out]; rfl, rfl⟩
      · by_cases h3 : s[i].toNat = 95
        · have hn := Lib.hid (s1 (by unfold okN lowW; rw [decide_eq_true (Or.inr h3)]; rfl))
          have q3 : ((s[i].toNat : Int) == 95) = true := beq_iff_eq.2 (by omega)
          clear s1 s2 hrel h3
          go_wp2
          go_round
          case rel => exact ⟨i + 1, by omega, by go_num, hn⟩
          case measure => simp [intOf]; omega
        · have hlw : lowW s[i] = false := by unfold lowW; exact decide_eq_false (by omega)
          have q3 : ((s[i].toNat : Int) == 95) = false := beq_eq_false_iff_ne.2 (by omega)
          clear h3
          by_cases h0 : i = 0
          · have q4 : ((i : Int) == 0) = true := beq_iff_eq.2 (by omega)
            have hn := Lib.hid (s2 (by unfold okN; rw [hlw, decide_eq_false (by omega : ¬ 0 < i)]; rfl))
            clear s1 s2 hrel hlw h0
            go_wp2
            go_ret
            exact ⟨by rw [hn.out]; rfl, rfl⟩
          · have q4 : ((i : Int) == 0) = false := beq_eq_false_iff_ne.2 (by omega)
            by_cases h4 : 48 ≤ s[i].toNat ∧ s[i].toNat ≤ 57
            · have hn := Lib.hid (s1 (by unfold okN isDig; rw [hlw, decide_eq_true h4, decide_eq_true (by omega : 0 < i)]; rfl))
              have q5 : decide ((57 : Int) < (s[i].toNat : Int)) = false := decide_eq_false (by omega)
              have q6 : decide ((s[i].toNat : Int) < 48) = false := decide_eq_false (by omega)
              clear s1 s2 hrel hlw h0 h4
              go_wp2
              go_round
              case rel => exact ⟨i + 1, by omega, by go_num, hn⟩
              case measure => simp [intOf]; omega
            · have hn := Lib.hid (s2 (by unfold okN isDig; rw [hlw, decide_eq_false h4]; simp))
              by_cases h5 : s[i].toNat < 48
              · have q6 : decide ((s[i].toNat : Int) < 48) = true := decide_eq_true (by omega)
                clear s1 s2 hrel hlw h0 h4
                go_wp2
                go_ret
                exact ⟨by rw [hn.out]; rfl, rfl⟩
              · have q6 : decide ((s[i].toNat : Int) < 48) = false := decide_eq_false (by omega)
                have q5 : decide ((57 : Int) < (s[i].toNat : Int)) = true := decide_eq_true (by omega)
                clear s1 s2 hrel hlw h0 h4
                go_wp2
                go_ret
                exact ⟨by rw [hn.out]; rfl, rfl⟩
    · have hn := Lib.hid (nameAt_end hrel.out hlt)
      clear hrel
      go_wp2
      go_ret
      exact ⟨by rw [hn.out]; rfl, rfl⟩
end Go.Proofs.YtiioijkpdkfknaaGreatDoor
