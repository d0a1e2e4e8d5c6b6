/- Walks: the reference's Again and Base, and the law SubjectTells. -/
import Derived.Test.YtmpggcjfmcigmaaDoorLaw30
import Derived.Test.YtmpggcjfmcigmaaDoorR05d
import Derived.Test.YtmpggcjfmcigmaaDoorR30i
import Derived.Test.YtmpggcjfmcigmaaDoorR30j
namespace Go.Proofs.YtmpggcjfmcigmaaDoor
open Go.RowKit Pk U8 Su Fo

set_option maxHeartbeats 1000000 in
theorem againR_any (s : ByteArray) (w : World) (hs : s.size ≤ 3000000) : Calls Tryd.prog 12 #[.string s] w fun e w' => e = .returned (.bool (Ag s.data.toList)) ∧ Below w.heap.size w w' := by
  have hp := plainR_any s w hs
  obtain ⟨P, hP, hPl, hPs⟩ := arrS (plain s.data.toList)
  rw [← hP] at hp
  have hPn : P.size ≤ 9000000 := by
    have h3 := plain_length s.data.toList
    have h4 : s.data.toList.length = s.size := rfl
    omega
  have hr := fun w => reduceR_any P w (by omega)
  have e2 : Ag s.data.toList = (red P.data.toList).2 := by unfold Ag; rw [hPl]
  rw [e2]
  unfold AnsIs at hr
  obtain ⟨X, hX⟩ : ∃ X, X = red P.data.toList := ⟨_, rfl⟩
  rw [← hX] at hr ⊢
  have HP := Lib.hid hp
  have HR := Lib.hid hr
  have tb := Below.refl w.heap.size w
  clear hp hr hP hPl hPs e2 hX
  go_enter Tryd.func12, Tryd.ntmps12
  go_wp2_with (first
            | (go_at_call 13; (with_reducible refine (HP.out).mono ?_); rintro e w1 ⟨rfl, hb1⟩; have tb := tb.trans (hb1.mono tb.size))
            | (go_at_call 20; (with_reducible refine (HR.out _).mono ?_); rintro e w1 ⟨rfl, hb1⟩; have tb := tb.trans (hb1.mono tb.size)))
  go_ret
  exact ⟨rfl, tb⟩
set_option maxHeartbeats 1000000 in
theorem baseR_any (s : ByteArray) (w : World) (hs : s.size ≤ 3000000) : Calls Tryd.prog 10 #[.string s] w fun e w' => e = .returned (.string ⟨(Bs s.data.toList).toArray⟩) ∧ Below w.heap.size w w' := by
  have hp := plainR_any s w hs
  obtain ⟨P, hP, hPl, hPs⟩ := arrS (plain s.data.toList)
  rw [← hP] at hp
  have hPn : P.size ≤ 9000000 := by
    have h3 := plain_length s.data.toList
    have h4 : s.data.toList.length = s.size := rfl
    omega
  have hr := fun w => reduceR_any P w (by omega)
  unfold AnsIs at hr
  obtain ⟨R, hR, hRl, hRs⟩ := arrS (red P.data.toList).1
  rw [← hR] at hr
  have hRn : R.size ≤ 9000000 := by
    have h2 := red_length _ P.data.toList (Nat.le_refl _)
    have h4 : P.data.toList.length = P.size := rfl
    omega
  have hf := fun w => foldR_any R w (by omega)
  have e2 : Bs s.data.toList = foldL R.data.toList := by unfold Bs; rw [hRl, hPl]
  rw [← e2] at hf
  obtain ⟨BA, hBA⟩ : ∃ BA : ByteArray, BA = ⟨(Bs s.data.toList).toArray⟩ := ⟨_, rfl⟩
  rw [← hBA] at hf ⊢
  generalize (red P.data.toList).2 = b at hr
  have HP := Lib.hid hp
  have HR := Lib.hid hr
  have HF := Lib.hid hf
  have tb := Below.refl w.heap.size w
  clear hp hr hf hP hPl hPs e2 hR hRl hRs hBA
  go_enter Tryd.func10, Tryd.ntmps10
  go_wp2_with (first
            | (go_at_call 13; (with_reducible refine (HP.out).mono ?_); rintro e w1 ⟨rfl, hb1⟩; have tb := tb.trans (hb1.mono tb.size))
            | (go_at_call 20; (with_reducible refine (HR.out _).mono ?_); rintro e w1 ⟨rfl, hb1⟩; have tb := tb.trans (hb1.mono tb.size))
            | (go_at_call 21; (with_reducible refine (HF.out _).mono ?_); rintro e w1 ⟨rfl, hb1⟩; have tb := tb.trans (hb1.mono tb.size)))
  go_ret
  exact ⟨rfl, tb⟩

set_option maxHeartbeats 4000000 in
set_option maxRecDepth 100000 in
theorem tells_any (s : ByteArray) (w : World) (h : Ready w) :
    Calls Tryd.prog 3 #[.string s] w fun e w' => e = .returned (.bool true) ∧ Below w.heap.size w w' := by
  have H := Lib.hid h
  have tb := Below.refl w.heap.size w
  clear h
  by_cases hs : s.size ≤ 2000
  · have hfw := fun w => few_any s w
    rw [decide_eq_true hs] at hfw
    have hb := fun w hw => base_rd s w hw (by omega)
    have ha := fun w hw => again_rd s w hw (by omega)
    have hb2 := fun w => baseR_any s w (by omega)
    have ha2 := fun w => againR_any s w (by omega)
    obtain ⟨BA, hBA⟩ : ∃ BA : ByteArray, BA = ⟨(Bs s.data.toList).toArray⟩ := ⟨_, rfl⟩
    obtain ⟨a, hA⟩ : ∃ a, a = Ag s.data.toList := ⟨_, rfl⟩
    rw [← hBA] at hb hb2
    rw [← hA] at ha ha2
    have HF := Lib.hid hfw
    have HB := Lib.hid hb
    have HA := Lib.hid ha
    have HB2 := Lib.hid hb2
    have HA2 := Lib.hid ha2
    clear hfw hb ha hb2 ha2 hBA hA
    cases a <;>
    · go_enter Tryd.func3, Tryd.ntmps3
      go_wp2_with (first
            | (go_at_call 7; (with_reducible refine (small_any _ (H.out.later tb)).mono ?_); rintro e w1 ⟨rfl, hb1⟩; have tb := tb.trans (hb1.mono tb.size))
            | (go_at_call 8; (with_reducible refine (HF.out _).mono ?_); rintro e w1 ⟨rfl, rfl⟩)
            | (go_at_call 9; (with_reducible refine (HB.out _ (H.out.later tb)).mono ?_); rintro e w1 ⟨rfl, hb1⟩; have tb := tb.trans (hb1.mono tb.size))
            | (go_at_call 11; (with_reducible refine (HA.out _ (H.out.later tb)).mono ?_); rintro e w1 ⟨rfl, hb1⟩; have tb := tb.trans (hb1.mono tb.size))
            | (go_at_call 10; (with_reducible refine (HB2.out _).mono ?_); rintro e w1 ⟨rfl, hb1⟩; have tb := tb.trans (hb1.mono tb.size))
            | (go_at_call 12; (with_reducible refine (HA2.out _).mono ?_); rintro e w1 ⟨rfl, hb1⟩; have tb := tb.trans (hb1.mono tb.size)))
      go_ret
      exact ⟨rfl, tb⟩
  · have hfw := fun w => few_any s w
    rw [decide_eq_false hs] at hfw
    have HF := Lib.hid hfw
    clear hfw
    go_enter Tryd.func3, Tryd.ntmps3
    go_wp2_with (first
            | (go_at_call 7; (with_reducible refine (small_any _ (H.out.later tb)).mono ?_); rintro e w1 ⟨rfl, hb1⟩; have tb := tb.trans (hb1.mono tb.size))
            | (go_at_call 8; (with_reducible refine (HF.out _).mono ?_); rintro e w1 ⟨rfl, rfl⟩))
    go_ret
    exact ⟨rfl, tb⟩
end Go.Proofs.YtmpggcjfmcigmaaDoor
