/- Walks: the law SubjectPlain. -/
import Derived.Test.YtmpggcjfmcigmaaDoorLaw30
import Derived.Test.YtmpggcjfmcigmaaDoorPl30c
import Derived.Test.YtmpggcjfmcigmaaDoorR30j
namespace Go.Proofs.YtmpggcjfmcigmaaDoor
open Go.RowKit Pk U8 Su Fo

theorem nomk_of {T : ByteArray} (h : ∀ q (h : q < T.size), T[q] ≠ 58 ∧ T[q] ≠ 91 ∧ T[q] ≠ 41) : NoMk T.data.toList := by
  refine ⟨fun hm => ?_, fun hm => ?_, fun hm => ?_⟩
  · obtain ⟨q, hq, e⟩ := List.getElem_of_mem hm
    exact (h q hq).1 e
  · obtain ⟨q, hq, e⟩ := List.getElem_of_mem hm
    exact (h q hq).2.1 e
  · obtain ⟨q, hq, e⟩ := List.getElem_of_mem hm
    exact (h q hq).2.2 e
theorem free_step {T : ByteArray} {X : List UInt8} (h : Hid (free T.data.toList = X)) (h0 : 0 < T.size) (hc : T[0] = 32) : Hid (free (T.extract 1 T.size).data.toList = X) := by
  have e := h.out
  rw [← tl_zero, tl_cons T 0 h0, hc, free_cons, if_pos rfl] at e
  show _ = _
  rw [← e]
  congr 1
  rw [← tl_zero, extC_tl]
theorem free_stop {T : ByteArray} {X : List UInt8} (h : Hid (free T.data.toList = X)) (h0 : 0 < T.size) (hc : ¬ T[0] = 32) : T.data.toList = X := by
  have e := h.out
  rw [← tl_zero, tl_cons T 0 h0, free_cons, if_neg hc, ← tl_cons T 0 h0, tl_zero] at e
  exact e
theorem free_out {T : ByteArray} {X : List UInt8} (h : Hid (free T.data.toList = X)) (h0 : ¬ 0 < T.size) : T.data.toList = X := by
  have e := h.out
  have hz : T.data.toList = [] := List.eq_nil_of_length_eq_zero (by show T.size = 0; omega)
  rw [hz] at e ⊢
  exact e
theorem trim_last {T : ByteArray} (h0 : 0 < T.size) : T.data.toList = (T.extract 0 (T.size - 1)).data.toList ++ [T[T.size - 1]] := by
  rw [ext_listS]
  simp only [List.drop_zero, Nat.sub_zero]
  have hl : T.data.toList.length = T.size := rfl
  conv => lhs; rw [← List.take_append_drop (T.size - 1) T.data.toList]
  congr 1
  rw [List.drop_eq_getElem_cons (by omega), List.drop_eq_nil_of_le (by omega)]
  rfl
theorem trim_step {T : ByteArray} {X : List UInt8} (h : Hid (trimR T.data.toList = X)) (h0 : 0 < T.size) (hc : T[T.size - 1] = 32) : Hid (trimR (T.extract 0 (T.size - 1)).data.toList = X) := by
  have e := h.out
  rw [trim_last h0, trimR_snoc, if_pos hc] at e
  exact e
theorem trim_stop {T : ByteArray} {X : List UInt8} (h : Hid (trimR T.data.toList = X)) (h0 : 0 < T.size) (hc : ¬ T[T.size - 1] = 32) : T.data.toList = X := by
  have e := h.out
  rw [trim_last h0, trimR_snoc, if_neg hc, ← trim_last h0] at e
  exact e
theorem trim_out {T : ByteArray} {X : List UInt8} (h : Hid (trimR T.data.toList = X)) (h0 : ¬ 0 < T.size) : T.data.toList = X := by
  have e := h.out
  have hz : T.data.toList = [] := List.eq_nil_of_length_eq_zero (by show T.size = 0; omega)
  rw [hz] at e ⊢
  exact e
theorem fold_rd (s : ByteArray) (w : World) (h : Ready w) (hs : s.size ≤ 9000000) :
    Calls Tryd.prog 14 #[.string s] w fun e w' => e = .returned (.string ⟨(foldL s.data.toList).toArray⟩) ∧ Below w.heap.size w w' := by
  obtain ⟨b, off, cap, h2⟩ := h.spans
  exact foldP_any s w (by omega) b off cap h2
set_option maxHeartbeats 4000000 in
set_option maxRecDepth 100000 in
theorem plainLaw_any (s : ByteArray) (w : World) (h : Ready w) :
    Calls Tryd.prog 5 #[.string s] w fun e w' => e = .returned (.bool true) ∧ Below w.heap.size w w' := by
  have H := Lib.hid h
  have tb := Below.refl w.heap.size w
  clear h
  by_cases hs : s.size ≤ 2000
  · have hfw := fun w => few_any s w
    rw [decide_eq_true hs] at hfw
    have HF := Lib.hid hfw
    clear hfw
    go_enter Tryd.func5, Tryd.ntmps5
    go_wp2_with (first
            | (go_at_call 7; (with_reducible refine (small_any _ (H.out.later tb)).mono ?_); rintro e w1 ⟨rfl, hb1⟩; have tb := tb.trans (hb1.mono tb.size))
            | (go_at_call 8; (with_reducible refine (HF.out _).mono ?_); rintro e w1 ⟨rfl, rfl⟩))
    have tb1 := tb
    clear tb
    go_loopw [4] (fun jv wi => ∃ (j : Nat), jv = .int .i64 j ∧ Below w.heap.size w wi ∧ j ≤ s.size ∧ Hid (∀ q (h : q < s.size), q < j → s[q] ≠ 58 ∧ s[q] ≠ 91 ∧ s[q] ≠ 41)) (fun jv _ => s.size - (intOf jv).toNat)
    case atStart => exact ⟨0, by first | rfl | trivial, tb1, by omega, fun q _ h => absurd h (by omega)⟩
    case round =>
    obtain ⟨j, rfl, tb, hj, hno⟩ := hrel
    by_cases hlt : j < s.size
    · by_cases h58 : s[j] = 58
      · have q1 : ((s[j].toNat : Int) == 58) = true := by rw [h58]; rfl
        clear h58
        go_wp2
        go_ret
        exact ⟨rfl, tb⟩
      · by_cases h91 : s[j] = 91
        · have q1 : ((s[j].toNat : Int) == 58) = false := by rw [h91]; rfl
          have q2 : ((s[j].toNat : Int) == 91) = true := by rw [h91]; rfl
          clear h58 h91
          go_wp2
          go_ret
          exact ⟨rfl, tb⟩
        · by_cases h41 : s[j] = 41
          · have q1 : ((s[j].toNat : Int) == 58) = false := by rw [h41]; rfl
            have q2 : ((s[j].toNat : Int) == 91) = false := by rw [h41]; rfl
            have q3 : ((s[j].toNat : Int) == 41) = true := by rw [h41]; rfl
            clear h58 h91 h41
            go_wp2
            go_ret
            exact ⟨rfl, tb⟩
          · have q1 : ((s[j].toNat : Int) == 58) = false := beq_eq_false_iff_ne.2 (by have := u8_ne (n := 58) h58 (by omega); omega)
            have q2 : ((s[j].toNat : Int) == 91) = false := beq_eq_false_iff_ne.2 (by have := u8_ne (n := 91) h91 (by omega); omega)
            have q3 : ((s[j].toNat : Int) == 41) = false := beq_eq_false_iff_ne.2 (by have := u8_ne (n := 41) h41 (by omega); omega)
            have hno' : Hid (∀ q (h : q < s.size), q < j + 1 → s[q] ≠ 58 ∧ s[q] ≠ 91 ∧ s[q] ≠ 41) := fun q h hq => by
              by_cases e : q = j
              · subst e; exact ⟨h58, h91, h41⟩
              · exact hno.out q h (by omega)
            clear h58 h91 h41 hno
            go_wp2
            go_roundw
            case rel => exact ⟨j + 1, by go_num, tb, by omega, hno'⟩
            case measure => simp [intOf]; omega
    · have hn := nomk_of fun q h => hno.out q h (by omega)
      clear hno
      have hp := fun w => plainR_any s w (by omega)
      obtain ⟨P, hP, hPl, hPs⟩ := arrS (plain s.data.toList)
      rw [← hP] at hp
      have hPn : P.size ≤ 9000 := by
        have h3 := plain_length s.data.toList
        have h4 : s.data.toList.length = s.size := rfl
        omega
      have hb := fun w hw => base_rd s w hw (by omega)
      have ha := fun w hw => again_rd s w hw (by omega)
      have hsm := fun w => smallR_any s w (by omega)
      obtain ⟨M, hM, hMl, hMs⟩ := arrS (s.data.toList.map lowc)
      rw [← hM] at hsm
      have hMn : M.size ≤ 9000 := by
        rw [hMs, List.length_map]
        have h4 : s.data.toList.length = s.size := rfl
        omega
      have hbm := fun w hw => base_rd M w hw (by omega)
      have e1 : Bs s.data.toList = foldL (trimR (free P.data.toList)) := by
        unfold Bs; rw [plain_law _ hn, hPl]; rfl
      have e2 : Ag s.data.toList = false := by unfold Ag; rw [plain_law _ hn]
      have e3 : Bs M.data.toList = Bs s.data.toList := by
        unfold Bs; rw [hMl]; exact small_law _ hn
      rw [e3] at hbm
      rw [e2] at ha
      obtain ⟨BA, hBA⟩ : ∃ BA : ByteArray, BA = ⟨(Bs s.data.toList).toArray⟩ := ⟨_, rfl⟩
      rw [← hBA] at hb hbm
      rw [e1] at hBA
      have hgen : Hid (∀ U : ByteArray, U.size ≤ 9000 → U.data.toList = trimR (free P.data.toList) → ∀ w, Ready w → Calls Tryd.prog 14 #[.string U] w fun e w' => e = .returned (.string BA) ∧ Below w.heap.size w w') := fun U hU he w hw => by
        have := fold_rd U w hw (by omega)
        rw [he, ← hBA] at this; exact this
      have HP := Lib.hid hp
      have HB := Lib.hid hb
      have HA := Lib.hid ha
      have HSM := Lib.hid hsm
      have HBM := Lib.hid hbm
      clear hp hb ha hsm hbm e1 e2 e3 hn hP hPl hPs hM hMl hMs hBA
      go_wp2_with (go_at_call 13; (with_reducible refine (HP.out _).mono ?_); rintro e w1 ⟨rfl, hb1⟩; have tb := tb.trans (hb1.mono tb.size))
      have tb2 := tb
      clear tb
      obtain ⟨FP, hFP⟩ : ∃ FP, FP = free P.data.toList := ⟨_, rfl⟩
      rw [← hFP] at hgen
      obtain ⟨TP, hTP⟩ : ∃ TP, TP = trimR FP := ⟨_, rfl⟩
      rw [← hTP] at hgen
      have hFP := Lib.hid hFP
      go_loopw [5] (fun tv wr => ∃ (T : ByteArray), tv = .string T ∧ Below w.heap.size w wr ∧ T.size ≤ P.size ∧ Hid (free T.data.toList = FP)) (fun tv _ => match tv with | .string S => S.size | _ => 0)
      case atStart => exact ⟨P, rfl, tb2, by omega, hFP.out.symm⟩
      case round =>
        obtain ⟨T, rfl, tb, hT, hfr⟩ := hrel
        by_cases h0 : 0 < T.size
        · by_cases hc : T[0] = 32
          · have hd := free_step hfr h0 hc
            have q : ((T[0].toNat : Int) == 32) = true := by rw [hc]; rfl
            have hz := extC_size T 1 (by omega)
            clear hfr hc
            go_wp2
            go_roundw
            case rel => exact ⟨T.extract 1 T.size, rfl, tb, by omega, hd⟩
            case measure => simp [hz]; omega
          · have hTe := free_stop hfr h0 hc
            have q : ((T[0].toNat : Int) == 32) = false := beq_eq_false_iff_ne.2 (by have := u8_ne (n := 32) hc (by omega); omega)
            clear hfr hc
            go_wp2
            have hT0 : Hid (trimR T.data.toList = TP) := by show _ = _; rw [hTe, hTP]
            clear hTe
            have tb3 := tb
            clear tb
            go_loopw [5] (fun tv wr => ∃ (U : ByteArray), tv = .string U ∧ Below w.heap.size w wr ∧ U.size ≤ P.size ∧ Hid (trimR U.data.toList = TP)) (fun tv _ => match tv with | .string S => S.size | _ => 0)
            case atStart => exact ⟨T, rfl, tb3, hT, hT0⟩
            case round =>
              obtain ⟨U, rfl, tb, hU, htr⟩ := hrel
              by_cases g0 : 0 < U.size
              · have gl : (U.size : Int) - 1 = ((U.size - 1 : Nat) : Int) := by omega
                by_cases gc : U[U.size - 1] = 32
                · have hd := trim_step htr g0 gc
                  have q : ((U[U.size - 1].toNat : Int) == 32) = true := by rw [gc]; rfl
                  have hz : (U.extract 0 (U.size - 1)).size = U.size - 1 := by rw [ByteArray.size_extract]; omega
                  clear htr gc
                  go_wp2
                  go_roundw
                  case rel => exact ⟨U.extract 0 (U.size - 1), rfl, tb, by omega, hd⟩
                  case measure => simp [hz]; omega
                · have hUe := trim_stop htr g0 gc
                  have q : ((U[U.size - 1].toNat : Int) == 32) = false := beq_eq_false_iff_ne.2 (by have := u8_ne (n := 32) gc (by omega); omega)
                  clear htr gc
                  have HU := Lib.hid (hgen.out U (by omega) hUe)
                  clear hUe
                  go_wp2_with (first
            | (go_at_call 14; (with_reducible refine (HU.out _ (H.out.later tb)).mono ?_); rintro e w1 ⟨rfl, hb1⟩; have tb := tb.trans (hb1.mono tb.size))
            | (go_at_call 15; (with_reducible refine (HSM.out _).mono ?_); rintro e w1 ⟨rfl, hb1⟩; have tb := tb.trans (hb1.mono tb.size))
            | (go_at_call 11; (with_reducible refine (HA.out _ (H.out.later tb)).mono ?_); rintro e w1 ⟨rfl, hb1⟩; have tb := tb.trans (hb1.mono tb.size))
            | (go_at_call 9; (with_reducible refine (HB.out _ (H.out.later tb)).mono ?_); rintro e w1 ⟨rfl, hb1⟩; have tb := tb.trans (hb1.mono tb.size))
            | (go_at_call 9; (with_reducible refine (HBM.out _ (H.out.later tb)).mono ?_); rintro e w1 ⟨rfl, hb1⟩; have tb := tb.trans (hb1.mono tb.size)))
                  go_ret
                  exact ⟨rfl, tb⟩
              · have hUe := trim_out htr g0
                clear htr
                have HU := Lib.hid (hgen.out U (by omega) hUe)
                clear hUe
                go_wp2_with (first
            | (go_at_call 14; (with_reducible refine (HU.out _ (H.out.later tb)).mono ?_); rintro e w1 ⟨rfl, hb1⟩; have tb := tb.trans (hb1.mono tb.size))
            | (go_at_call 15; (with_reducible refine (HSM.out _).mono ?_); rintro e w1 ⟨rfl, hb1⟩; have tb := tb.trans (hb1.mono tb.size))
            | (go_at_call 11; (with_reducible refine (HA.out _ (H.out.later tb)).mono ?_); rintro e w1 ⟨rfl, hb1⟩; have tb := tb.trans (hb1.mono tb.size))
            | (go_at_call 9; (with_reducible refine (HB.out _ (H.out.later tb)).mono ?_); rintro e w1 ⟨rfl, hb1⟩; have tb := tb.trans (hb1.mono tb.size))
            | (go_at_call 9; (with_reducible refine (HBM.out _ (H.out.later tb)).mono ?_); rintro e w1 ⟨rfl, hb1⟩; have tb := tb.trans (hb1.mono tb.size)))
                go_ret
                exact ⟨rfl, tb⟩
        · have hTe := free_out hfr h0
          clear hfr
          go_wp2
          have hT0 : Hid (trimR T.data.toList = TP) := by show _ = _; rw [hTe, hTP]
          clear hTe
          have tb3 := tb
          clear tb
          go_loopw [5] (fun tv wr => ∃ (U : ByteArray), tv = .string U ∧ Below w.heap.size w wr ∧ U.size ≤ P.size ∧ Hid (trimR U.data.toList = TP)) (fun tv _ => match tv with | .string S => S.size | _ => 0)
          case atStart => exact ⟨T, rfl, tb3, hT, hT0⟩
          case round =>
            obtain ⟨U, rfl, tb, hU, htr⟩ := hrel
            by_cases g0 : 0 < U.size
            · have gl : (U.size : Int) - 1 = ((U.size - 1 : Nat) : Int) := by omega
              by_cases gc : U[U.size - 1] = 32
              · have hd := trim_step htr g0 gc
                have q : ((U[U.size - 1].toNat : Int) == 32) = true := by rw [gc]; rfl
                have hz : (U.extract 0 (U.size - 1)).size = U.size - 1 := by rw [ByteArray.size_extract]; omega
                clear htr gc
                go_wp2
                go_roundw
                case rel => exact ⟨U.extract 0 (U.size - 1), rfl, tb, by omega, hd⟩
                case measure => simp [hz]; omega
              · have hUe := trim_stop htr g0 gc
                have q : ((U[U.size - 1].toNat : Int) == 32) = false := beq_eq_false_iff_ne.2 (by have := u8_ne (n := 32) gc (by omega); omega)
                clear htr gc
                have HU := Lib.hid (hgen.out U (by omega) hUe)
                clear hUe
                go_wp2_with (first
            | (go_at_call 14; (with_reducible refine (HU.out _ (H.out.later tb)).mono ?_); rintro e w1 ⟨rfl, hb1⟩; have tb := tb.trans (hb1.mono tb.size))
            | (go_at_call 15; (with_reducible refine (HSM.out _).mono ?_); rintro e w1 ⟨rfl, hb1⟩; have tb := tb.trans (hb1.mono tb.size))
            | (go_at_call 11; (with_reducible refine (HA.out _ (H.out.later tb)).mono ?_); rintro e w1 ⟨rfl, hb1⟩; have tb := tb.trans (hb1.mono tb.size))
            | (go_at_call 9; (with_reducible refine (HB.out _ (H.out.later tb)).mono ?_); rintro e w1 ⟨rfl, hb1⟩; have tb := tb.trans (hb1.mono tb.size))
            | (go_at_call 9; (with_reducible refine (HBM.out _ (H.out.later tb)).mono ?_); rintro e w1 ⟨rfl, hb1⟩; have tb := tb.trans (hb1.mono tb.size)))
                go_ret
                exact ⟨rfl, tb⟩
            · have hUe := trim_out htr g0
              clear htr
              have HU := Lib.hid (hgen.out U (by omega) hUe)
              clear hUe
              go_wp2_with (first
            | (go_at_call 14; (with_reducible refine (HU.out _ (H.out.later tb)).mono ?_); rintro e w1 ⟨rfl, hb1⟩; have tb := tb.trans (hb1.mono tb.size))
            | (go_at_call 15; (with_reducible refine (HSM.out _).mono ?_); rintro e w1 ⟨rfl, hb1⟩; have tb := tb.trans (hb1.mono tb.size))
            | (go_at_call 11; (with_reducible refine (HA.out _ (H.out.later tb)).mono ?_); rintro e w1 ⟨rfl, hb1⟩; have tb := tb.trans (hb1.mono tb.size))
            | (go_at_call 9; (with_reducible refine (HB.out _ (H.out.later tb)).mono ?_); rintro e w1 ⟨rfl, hb1⟩; have tb := tb.trans (hb1.mono tb.size))
            | (go_at_call 9; (with_reducible refine (HBM.out _ (H.out.later tb)).mono ?_); rintro e w1 ⟨rfl, hb1⟩; have tb := tb.trans (hb1.mono tb.size)))
              go_ret
              exact ⟨rfl, tb⟩
  · have hfw := fun w => few_any s w
    rw [decide_eq_false hs] at hfw
    have HF := Lib.hid hfw
    clear hfw
    go_enter Tryd.func5, Tryd.ntmps5
    go_wp2_with (first
            | (go_at_call 7; (with_reducible refine (small_any _ (H.out.later tb)).mono ?_); rintro e w1 ⟨rfl, hb1⟩; have tb := tb.trans (hb1.mono tb.size))
            | (go_at_call 8; (with_reducible refine (HF.out _).mono ?_); rintro e w1 ⟨rfl, rfl⟩))
    go_ret
    exact ⟨rfl, tb⟩
end Go.Proofs.YtmpggcjfmcigmaaDoor
