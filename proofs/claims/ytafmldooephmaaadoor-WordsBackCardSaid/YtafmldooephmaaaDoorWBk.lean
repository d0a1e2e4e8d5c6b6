/- Walks: the law WordsBack. -/
import Derived.Test.YtafmldooephmaaaDoorWPl
import Derived.Test.YtafmldooephmaaaDoorShelfV
import Derived.Lib.ValidLaws
namespace Go.Proofs.YtafmldooephmaaaDoor
open Go.RowKit Pk U8 Cs Wd

theorem encs_consW (n : Nat) (ns : List Nat) : encs (n :: ns) = Lib.encodeRune (n : Int) ++ encs ns := rfl
theorem enc_neW (n : Nat) : Lib.encodeRune (n : Int) ≠ [] := fun e => by
  have := (enc_len n).1
  rw [e] at this
  simp at this
theorem decodeL_dec (l : List UInt8) : Lib.decodeL l = dec l := by
  unfold Lib.decodeL
  rw [dec_eq, tl_zero]
theorem validD_encs : ∀ ns : List Nat, (∀ n ∈ ns, Sca n) → Lib.validD (encs ns) = true
  | [], _ => rfl
  | n :: ns, h => by
    have hn := h n (by simp)
    have hne : encs (n :: ns) ≠ [] := by
      rw [encs_consW]; intro e
      exact enc_neW n (List.append_eq_nil_iff.1 e).1
    rw [Lib.validD_step _ hne, decodeL_dec, encs_consW, U8.dec_enc n hn, List.drop_left]
    rw [if_neg]
    · exact validD_encs ns (fun m hm => h m (by simp [hm]))
    · rintro ⟨h1, h2⟩
      have h1' : n = 65533 := h1
      have h2' : (Lib.encodeRune (n : Int)).length = 1 := h2
      rw [h1'] at h2'
      revert h2'; decide
theorem valid_dec (l : List UInt8) : Lib.validD (decW l) = true := by
  unfold decW
  rw [repair_eq]
  exact validD_encs _ (runes_sca _)
theorem validP_any (s : ByteArray) (w : World) (hT : Tabs w) (hs : s.size ≤ 3000000) :
    Calls Tryd.prog 14 #[.string s] w fun e w' => e = .returned (.bool (Lib.validD s.data.toList)) ∧ Below w.heap.size w w' := by
  have h : Hid (∀ w, Tabs w → Calls Tryd.prog 33 #[.string s] w fun e w' => e = .returned (.bool (Lib.validD s.data.toList)) ∧ Below w.heap.size w w') := fun w hT => Tryd.hV_ValidString s w (by omega) hT
  have HT := Lib.hid hT
  have tb := Below.refl w.heap.size w
  clear hT
  generalize Lib.validD s.data.toList = b at h
  go_enter Tryd.func14, Tryd.ntmps14
  go_wp2_with (go_at_call 33; (with_reducible refine (h.out _ HT.out).mono ?_); rintro e w1 ⟨rfl, hb1⟩; have tb := tb.trans (hb1.mono tb.size))
  go_ret
  exact ⟨rfl, tb⟩
theorem runs_step {E : ByteArray} {i L : Nat} (h : Hid (runs L (tl E i) = true)) (hi : i < E.size) : (E[i] = 32 → Hid (runs 0 (tl E (i + 1)) = true)) ∧ (E[i] ≠ 32 → L + 1 ≤ 75 ∧ Hid (runs (L + 1) (tl E (i + 1)) = true)) := by
  have e := h.out
  have e2 : runs L (E[i] :: tl E (i + 1)) = if E[i] = 32 then runs 0 (tl E (i + 1)) else decide (L + 1 ≤ 75) && runs (L + 1) (tl E (i + 1)) := rfl
  rw [tl_cons E i hi, e2] at e
  refine ⟨fun h1 => ?_, fun h1 => ?_⟩
  · rw [if_pos h1] at e; exact e
  · rw [if_neg h1, Bool.and_eq_true, decide_eq_true_eq] at e
    exact ⟨e.1, e.2⟩
theorem ok_byte {c : UInt8} (h : okB c = true) : 32 ≤ c.toNat ∧ c.toNat ≤ 126 := by
  unfold okB at h
  simpa using h
set_option maxHeartbeats 4000000 in
set_option maxRecDepth 100000 in
theorem backLaw_any (s : ByteArray) (w : World) (h : Rdy w) :
    Calls Tryd.prog 6 #[.string s] w fun e w' => e = .returned (.bool true) ∧ Below w.heap.size w w' := by
  have H := Lib.hid h
  have tb := Below.refl w.heap.size w
  clear h
  by_cases hs : s.size ≤ 300
  · have hfa := fun w => fewW_any s w
    rw [decide_eq_true hs] at hfa
    have HFA := Lib.hid hfa
    clear hfa
    obtain ⟨E, -, hE, hEs⟩ := arr_ex (encW s.data.toList)
    obtain ⟨R, -, hR, hRs⟩ := arr_ex (repairL s.data.toList)
    obtain ⟨D, -, hD, hDs⟩ := arr_ex (decW s.data.toList)
    obtain ⟨F, -, hF, hFs⟩ := arr_ex (encW R.data.toList)
    have ls : s.data.toList.length = s.size := rfl
    have lR : R.data.toList.length = R.size := rfl
    have b1 := encW_length s.data.toList
    have b2 := repairL_length s.data.toList
    have b3 := decW_length s.data.toList
    have hEn : E.size ≤ 23000 := by omega
    have hRn : R.size ≤ 900 := by omega
    have hDn : D.size ≤ 3600 := by omega
    have HEN := Lib.hid fun w' (tb : Below w.heap.size w w') => enc_rd s E w' (H.out.later tb) (by omega) hE
    have HDE := Lib.hid fun w' (tb : Below w.heap.size w w') => dec_rd E R w' (H.out.later tb) (by omega) (by rw [hR, hE, Wd.dec_enc])
    have HR := Lib.hid fun w' (tb : Below w.heap.size w w') => rep_rd s R w' (H.out.later tb) (by omega) hR
    have HD := Lib.hid fun w' (tb : Below w.heap.size w w') => dec_rd s D w' (H.out.later tb) (by omega) hD
    have hv := fun w' (tb : Below w.heap.size w w') => validP_any D w' (H.out.later tb).tabs (by omega)
    rw [hD, valid_dec] at hv
    have HV := Lib.hid hv
    have HF := Lib.hid fun w' (tb : Below w.heap.size w w') => enc_rd R F w' (H.out.later tb) (by omega) hF
    have hok : ∀ i (hi : i < E.size), 32 ≤ E[i].toNat ∧ E[i].toNat ≤ 126 := fun i hi => ok_byte (enc_ok s.data.toList E[i] (by rw [← hE]; exact List.getElem_mem (l := E.data.toList) (n := i) hi))
    have HOK := Lib.hid hok
    obtain ⟨X, hX⟩ : ∃ X, (E.toList == s.toList) = X := ⟨_, rfl⟩
    have hX2 : (E.toList != s.toList) = !X := by rw [← hX]; rfl
    have hrun : X = false → runs 0 (tl E 0) = true := fun e => by
      rw [tl_zero, hE]
      refine runs_enc fun e2 => ?_
      rw [e, Lib.toList_data, Lib.toList_data, hE, e2] at hX
      simp at hX
    clear hE hR hD hF hEs hRs hDs hFs ls lR b1 b2 b3 hv hok
    cases X with
    | true =>
      clear hrun
      go_enter Tryd.func6, Tryd.ntmps6
      go_wp2_with (first
            | (go_at_call 7; (with_reducible refine (smallW_any _ (H.out.later tb)).mono ?_); rintro e w1 ⟨rfl, hb1⟩; have tb := tb.trans (hb1.mono tb.size))
            | (go_at_call 8; (with_reducible refine (HFA.out _).mono ?_); rintro e w1 ⟨rfl, rfl⟩)
            | (go_at_call 11; (with_reducible refine (HEN.out _ tb).mono ?_); rintro e w1 ⟨rfl, hb1⟩; have tb := tb.trans (hb1.mono tb.size)))
      have tb1 := tb
      clear tb
      go_loopw [5, 6] (fun lv iv wi => ∃ (i L : Nat), lv = .int .i64 L ∧ iv = .int .i64 i ∧ Below w.heap.size w wi ∧ i ≤ E.size ∧ L ≤ i) (fun _ iv _ => E.size - (intOf iv).toNat)
      case atStart => exact ⟨0, 0, by first | rfl | trivial, by first | rfl | trivial, tb1, by omega, by omega⟩
      case round =>
        obtain ⟨i, L, rfl, rfl, tb, hi, hL⟩ := hrel
        by_cases hlt : i < E.size
        · obtain ⟨o1, o2⟩ := HOK.out i hlt
          by_cases h32 : E[i].toNat = 32
          · have q1 : ((E[i].toNat : Int) == 32) = true := by rw [h32]; rfl
            go_wp2
            go_roundw
            case rel => exact ⟨i + 1, 0, by first | rfl | trivial, by go_num, tb, by omega, by omega⟩
            case measure => simp [intOf]; omega
          · have q1 : ((E[i].toNat : Int) == 32) = false := beq_eq_false_iff_ne.2 (by omega)
            go_wp2
            go_roundw
            case rel => exact ⟨i + 1, L + 1, by go_num, by go_num, tb, by omega, by omega⟩
            case measure => simp [intOf]; omega
        · go_wp2_with (first
            | (go_at_call 9; (with_reducible refine (HDE.out _ tb).mono ?_); rintro e w1 ⟨rfl, hb1⟩; have tb := tb.trans (hb1.mono tb.size))
            | (go_at_call 9; (with_reducible refine (HD.out _ tb).mono ?_); rintro e w1 ⟨rfl, hb1⟩; have tb := tb.trans (hb1.mono tb.size))
            | (go_at_call 13; (with_reducible refine (HR.out _ tb).mono ?_); rintro e w1 ⟨rfl, hb1⟩; have tb := tb.trans (hb1.mono tb.size))
            | (go_at_call 14; (with_reducible refine (HV.out _ tb).mono ?_); rintro e w1 ⟨rfl, hb1⟩; have tb := tb.trans (hb1.mono tb.size))
            | (go_at_call 11; (with_reducible refine (HF.out _ tb).mono ?_); rintro e w1 ⟨rfl, hb1⟩; have tb := tb.trans (hb1.mono tb.size)))
          go_ret
          exact ⟨rfl, tb⟩
    | false =>
      have HRUN : Hid (runs 0 (tl E 0) = true) := hrun rfl
      clear hrun
      go_enter Tryd.func6, Tryd.ntmps6
      go_wp2_with (first
            | (go_at_call 7; (with_reducible refine (smallW_any _ (H.out.later tb)).mono ?_); rintro e w1 ⟨rfl, hb1⟩; have tb := tb.trans (hb1.mono tb.size))
            | (go_at_call 8; (with_reducible refine (HFA.out _).mono ?_); rintro e w1 ⟨rfl, rfl⟩)
            | (go_at_call 11; (with_reducible refine (HEN.out _ tb).mono ?_); rintro e w1 ⟨rfl, hb1⟩; have tb := tb.trans (hb1.mono tb.size)))
      have tb1 := tb
      clear tb
      go_loopw [5, 6] (fun lv iv wi => ∃ (i L : Nat), lv = .int .i64 L ∧ iv = .int .i64 i ∧ Below w.heap.size w wi ∧ i ≤ E.size ∧ L ≤ 75 ∧ Hid (runs L (tl E i) = true)) (fun _ iv _ => E.size - (intOf iv).toNat)
      case atStart => exact ⟨0, 0, by first | rfl | trivial, by first | rfl | trivial, tb1, by omega, by omega, HRUN⟩
      case round =>
        obtain ⟨i, L, rfl, rfl, tb, hi, hL, hrel⟩ := hrel
        by_cases hlt : i < E.size
        · obtain ⟨o1, o2⟩ := HOK.out i hlt
          obtain ⟨r1, r2⟩ := runs_step hrel hlt
          by_cases h32 : E[i] = 32
          · have q1 : ((E[i].toNat : Int) == 32) = true := by rw [h32]; rfl
            have hd := r1 h32
            have q0 : E[i].toNat = 32 := by rw [h32]; rfl
            clear hrel r1 r2 h32
            go_wp2
            go_roundw
            case rel => exact ⟨i + 1, 0, by first | rfl | trivial, by go_num, tb, by omega, by omega, hd⟩
            case measure => simp [intOf]; omega
          · have q1 : ((E[i].toNat : Int) == 32) = false := beq_eq_false_iff_ne.2 (by have := u8_ne (n := 32) h32 (by omega); omega)
            obtain ⟨h75, hd⟩ := r2 h32
            clear hrel r1 r2 h32
            go_wp2
            go_roundw
            case rel => exact ⟨i + 1, L + 1, by go_num, by go_num, tb, by omega, by omega, hd⟩
            case measure => simp [intOf]; omega
        · clear hrel
          go_wp2_with (first
            | (go_at_call 9; (with_reducible refine (HDE.out _ tb).mono ?_); rintro e w1 ⟨rfl, hb1⟩; have tb := tb.trans (hb1.mono tb.size))
            | (go_at_call 9; (with_reducible refine (HD.out _ tb).mono ?_); rintro e w1 ⟨rfl, hb1⟩; have tb := tb.trans (hb1.mono tb.size))
            | (go_at_call 13; (with_reducible refine (HR.out _ tb).mono ?_); rintro e w1 ⟨rfl, hb1⟩; have tb := tb.trans (hb1.mono tb.size))
            | (go_at_call 14; (with_reducible refine (HV.out _ tb).mono ?_); rintro e w1 ⟨rfl, hb1⟩; have tb := tb.trans (hb1.mono tb.size))
            | (go_at_call 11; (with_reducible refine (HF.out _ tb).mono ?_); rintro e w1 ⟨rfl, hb1⟩; have tb := tb.trans (hb1.mono tb.size)))
          go_ret
          exact ⟨rfl, tb⟩
  · have hfa := fun w => fewW_any s w
    rw [decide_eq_false hs] at hfa
    have HFA := Lib.hid hfa
    clear hfa
    go_enter Tryd.func6, Tryd.ntmps6
    go_wp2_with (first
            | (go_at_call 7; (with_reducible refine (smallW_any _ (H.out.later tb)).mono ?_); rintro e w1 ⟨rfl, hb1⟩; have tb := tb.trans (hb1.mono tb.size))
            | (go_at_call 8; (with_reducible refine (HFA.out _).mono ?_); rintro e w1 ⟨rfl, rfl⟩))
    go_ret
    exact ⟨rfl, tb⟩
end Go.Proofs.YtafmldooephmaaaDoor
