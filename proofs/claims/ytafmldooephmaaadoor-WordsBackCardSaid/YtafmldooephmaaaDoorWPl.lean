/- Walks: the law WordsPlain. -/
import Derived.Test.YtafmldooephmaaaDoorLaw13
namespace Go.Proofs.YtafmldooephmaaaDoor
open Go.RowKit Pk U8 Cs Wd

def hasL (l : List UInt8) : Bool := !(noEq l)
theorem hasL_step {s : ByteArray} {j : Nat} {b X : Bool} (h : Hid ((b || hasL (tl s j)) = X)) (hj : j + 1 < s.size) : Hid (((b || (s[j] == 61 && s[j + 1] == 63)) || hasL (tl s (j + 1))) = X) := by
  have e := h.out
  rw [tl_cons s j (by omega), tl_cons s (j + 1) hj] at e
  show _ = _
  rw [← e, tl_cons s (j + 1) hj]
  have e2 : hasL (s[j] :: s[j + 1] :: tl s (j + 1 + 1)) = ((s[j] == 61 && s[j + 1] == 63) || hasL (s[j + 1] :: tl s (j + 1 + 1))) := by
    unfold hasL
    have : noEq (s[j] :: s[j + 1] :: tl s (j + 1 + 1)) = (!(s[j] == 61 && s[j + 1] == 63) && noEq (s[j + 1] :: tl s (j + 1 + 1))) := rfl
    rw [this, Bool.not_and, Bool.not_not]
  rw [e2, Bool.or_assoc]
theorem hasL_end {s : ByteArray} {j : Nat} {b X : Bool} (h : Hid ((b || hasL (tl s j)) = X)) (hj : ¬ j + 1 < s.size) : b = X := by
  have e := h.out
  have e2 : hasL (tl s j) = false := by
    by_cases h1 : j < s.size
    · rw [tl_cons s j h1, tl_end s (j + 1) (by omega)]; rfl
    · rw [tl_end s j (by omega)]; rfl
  rw [e2, Bool.or_false] at e
  exact e
theorem ba_of {S : ByteArray} {l : List UInt8} (h : S.data.toList = l) : (⟨l.toArray⟩ : ByteArray) = S := by
  subst h
  rfl
theorem dec_rd (s S : ByteArray) (w : World) (h : Rdy w) (hs : s.size ≤ 700000) (hS : S.data.toList = decW s.data.toList) :
    Calls Tryd.prog 9 #[.string s] w fun e w' => e = .returned (.string S) ∧ Below w.heap.size w w' := by
  have := decodeW_any s w h hs
  rw [ba_of hS] at this
  exact this
theorem rep_rd (s S : ByteArray) (w : World) (h : Rdy w) (hs : s.size ≤ 700000) (hS : S.data.toList = repairL s.data.toList) :
    Calls Tryd.prog 13 #[.string s] w fun e w' => e = .returned (.string S) ∧ Below w.heap.size w w' := by
  have := repairP_any s w h.tabs (by omega)
  rw [ba_of hS] at this
  exact this
theorem enc_rd (s S : ByteArray) (w : World) (h : Rdy w) (hs : s.size ≤ 700000) (hS : S.data.toList = encW s.data.toList) :
    Calls Tryd.prog 11 #[.string s] w fun e w' => e = .returned (.string S) ∧ Below w.heap.size w w' := by
  have := encodeW_any s w h hs
  rw [ba_of hS] at this
  exact this
theorem decW_length (l : List UInt8) : (decW l).length ≤ 12 * l.length := by
  have := raw_length _ l (Nat.le_refl _)
  have := repairL_length (rawL l)
  unfold decW; omega
theorem pack_length : ∀ (qs : List (List UInt8)) (o : List UInt8), (pack o qs).length ≤ qs.length + 1
  | [], o => by simp [pack]
  | q :: r, o => by
    unfold pack
    split
    · have := pack_length r q
      simp only [List.length_cons]; omega
    · have := pack_length r (o ++ q)
      simp only [List.length_cons]; omega
theorem encW_length (l : List UInt8) : (encW l).length ≤ 76 * (l.length + 1) := by
  unfold encW
  split
  · omega
  · have h1 := joinW_length (wordsL l) (words_len l)
    have h2 := pack_length ((runes l).map qF) []
    have h3 := runes_length l
    rw [List.length_map] at h2
    have h4 : (wordsL l).length ≤ l.length + 1 := by unfold wordsL; omega
    omega
theorem ext2_eq (a : ByteArray) (j : Nat) (h : j + 1 < a.size) : ((a.extract j (j + 2)).toList == [61, 63]) = (a[j] == 61 && a[j + 1] == 63) := by
  have e : (a.extract j (j + 2)).toList = [a[j], a[j + 1]] := by
    rw [Lib.toList_data]
    have h1 : (a.extract j (j + 2)).data.toList = (a.data.toList.drop j).take (j + 2 - j) := by rw [← Lib.extract_toList, Lib.toList_data]
    rw [h1, show j + 2 - j = 2 by omega]
    have h2 : a.data.toList.drop j = tl a j := rfl
    rw [h2, tl_cons a j (by omega), tl_cons a (j + 1) h]
    rfl
  rw [e]
  simp [List.cons_beq_cons]
set_option maxHeartbeats 4000000 in
set_option maxRecDepth 100000 in
theorem plainLawW_any (a b : ByteArray) (w : World) (h : Rdy w) :
    Calls Tryd.prog 4 #[.string a, .string b] w fun e w' => e = .returned (.bool true) ∧ Below w.heap.size w w' := by
  have H := Lib.hid h
  have tb := Below.refl w.heap.size w
  clear h
  by_cases ha : a.size ≤ 300
  · have hfa := fun w => fewW_any a w
    rw [decide_eq_true ha] at hfa
    have HFA := Lib.hid hfa
    by_cases hb : b.size ≤ 300
    · have hfb := fun w => fewW_any b w
      rw [decide_eq_true hb] at hfb
      have HFB := Lib.hid hfb
      clear hfa hfb
      go_enter Tryd.func4, Tryd.ntmps4
      go_wp2_with (first
            | (go_at_call 7; (with_reducible refine (smallW_any _ (H.out.later tb)).mono ?_); rintro e w1 ⟨rfl, hb1⟩; have tb := tb.trans (hb1.mono tb.size))
            | (go_at_call 8; (with_reducible refine (HFA.out _).mono ?_); rintro e w1 ⟨rfl, rfl⟩)
            | (go_at_call 8; (with_reducible refine (HFB.out _).mono ?_); rintro e w1 ⟨rfl, rfl⟩))
      have tb1 := tb
      clear tb
      go_loopw [6, 7] (fun hv jv wi => ∃ (j : Nat) (q : Bool), hv = .bool q ∧ jv = .int .i64 j ∧ Below w.heap.size w wi ∧ j ≤ a.size ∧ Hid ((q || hasL (tl a j)) = hasL (tl a 0))) (fun _ jv _ => a.size - (intOf jv).toNat)
      case atStart => exact ⟨0, false, rfl, by first | rfl | trivial, tb1, by omega, by show _ = _; simp⟩
      case round =>
        obtain ⟨j, q, rfl, rfl, tb, hj, hrel⟩ := hrel
        by_cases hlt : j + 1 < a.size
        · have hst := hasL_step hrel hlt
          cases q with
          | true =>
            have hd : Hid ((true || hasL (tl a (j + 1))) = hasL (tl a 0)) := hst
            clear hrel hst
            go_wp2
            go_roundw
            case rel => exact ⟨j + 1, true, rfl, by go_num, tb, by omega, hd⟩
            case measure => simp [intOf]; omega
          | false =>
            have hx := ext2_eq a j hlt
            obtain ⟨x, hxx⟩ : ∃ x, x = (a[j] == 61 && a[j + 1] == 63) := ⟨_, rfl⟩
            rw [Bool.false_or, ← hxx] at hst
            rw [← hxx] at hx
            clear hrel hxx
            go_wp2
            go_roundw
            case rel => exact ⟨j + 1, x, by first | rfl | rw [hx], by go_num, tb, by omega, hst⟩
            case measure => simp [intOf]; omega
        · have hfin := hasL_end hrel hlt
          rw [tl_zero] at hfin
          obtain ⟨A, hA, hAl, hAs⟩ := arr_ex (decW a.data.toList)
          obtain ⟨B, hB, hBl, hBs⟩ := arr_ex (decW b.data.toList)
          have la := decW_length a.data.toList
          have lb := decW_length b.data.toList
          have la2 : a.data.toList.length = a.size := rfl
          have lb2 : b.data.toList.length = b.size := rfl
          have hAn : A.size ≤ 3600 := by omega
          have hBn : B.size ≤ 3600 := by omega
          have z1 : (a ++ (⟨#[0]⟩ : ByteArray)).size = a.size + 1 := ByteArray.size_append
          have z2 : (A ++ (⟨#[0]⟩ : ByteArray)).size = A.size + 1 := ByteArray.size_append
          have z3 : (a ++ (⟨#[0]⟩ : ByteArray) ++ b).size = a.size + 1 + b.size := by rw [ByteArray.size_append, z1]
          have hz : (A ++ (⟨#[0]⟩ : ByteArray) ++ B).data.toList = decW (a ++ (⟨#[0]⟩ : ByteArray) ++ b).data.toList := by
            rw [data_app, data_app, data_app, data_app, hAl, hBl]
            have := dec_apart a.data.toList b.data.toList
            simpa using this.symm
          have HA := Lib.hid fun w' (tb : Below w.heap.size w w') => dec_rd a A w' (H.out.later tb) (by omega) hAl
          have HB := Lib.hid fun w' (tb : Below w.heap.size w w') => dec_rd b B w' (H.out.later tb) (by omega) hBl
          have HZ := Lib.hid fun w' (tb : Below w.heap.size w w') => dec_rd (a ++ (⟨#[0]⟩ : ByteArray) ++ b) (A ++ (⟨#[0]⟩ : ByteArray) ++ B) w' (H.out.later tb) (by omega) hz
          have hn : q = false → A.data.toList = repairL a.data.toList := fun e => by
            rw [hAl, dec_noEq]
            rw [e] at hfin
            unfold hasL at hfin
            simpa using hfin.symm
          clear hrel hfin hA hAl hAs hB hBl hBs la lb la2 lb2 hz z3
          cases q with
          | true =>
            clear hn
            go_wp2_with (first
            | (go_at_call 9; (with_reducible refine (HZ.out _ tb).mono ?_); rintro e w1 ⟨rfl, hb1⟩; have tb := tb.trans (hb1.mono tb.size))
            | (go_at_call 9; (with_reducible refine (HA.out _ tb).mono ?_); rintro e w1 ⟨rfl, hb1⟩; have tb := tb.trans (hb1.mono tb.size))
            | (go_at_call 9; (with_reducible refine (HB.out _ tb).mono ?_); rintro e w1 ⟨rfl, hb1⟩; have tb := tb.trans (hb1.mono tb.size)))
            go_ret
            exact ⟨rfl, tb⟩
          | false =>
            have HR := Lib.hid fun w' (tb : Below w.heap.size w w') => rep_rd a A w' (H.out.later tb) (by omega) (hn rfl)
            clear hn
            go_wp2_with (first
            | (go_at_call 9; (with_reducible refine (HZ.out _ tb).mono ?_); rintro e w1 ⟨rfl, hb1⟩; have tb := tb.trans (hb1.mono tb.size))
            | (go_at_call 9; (with_reducible refine (HA.out _ tb).mono ?_); rintro e w1 ⟨rfl, hb1⟩; have tb := tb.trans (hb1.mono tb.size))
            | (go_at_call 9; (with_reducible refine (HB.out _ tb).mono ?_); rintro e w1 ⟨rfl, hb1⟩; have tb := tb.trans (hb1.mono tb.size))
            | (go_at_call 13; (with_reducible refine (HR.out _ tb).mono ?_); rintro e w1 ⟨rfl, hb1⟩; have tb := tb.trans (hb1.mono tb.size)))
            go_ret
            exact ⟨rfl, tb⟩
    · have hfb := fun w => fewW_any b w
      rw [decide_eq_false hb] at hfb
      have HFB := Lib.hid hfb
      clear hfa hfb
      go_enter Tryd.func4, Tryd.ntmps4
      go_wp2_with (first
            | (go_at_call 7; (with_reducible refine (smallW_any _ (H.out.later tb)).mono ?_); rintro e w1 ⟨rfl, hb1⟩; have tb := tb.trans (hb1.mono tb.size))
            | (go_at_call 8; (with_reducible refine (HFA.out _).mono ?_); rintro e w1 ⟨rfl, rfl⟩)
            | (go_at_call 8; (with_reducible refine (HFB.out _).mono ?_); rintro e w1 ⟨rfl, rfl⟩))
      go_ret
      exact ⟨rfl, tb⟩
  · have hfa := fun w => fewW_any a w
    rw [decide_eq_false ha] at hfa
    have HFA := Lib.hid hfa
    clear hfa
    go_enter Tryd.func4, Tryd.ntmps4
    go_wp2_with (first
            | (go_at_call 7; (with_reducible refine (smallW_any _ (H.out.later tb)).mono ?_); rintro e w1 ⟨rfl, hb1⟩; have tb := tb.trans (hb1.mono tb.size))
            | (go_at_call 8; (with_reducible refine (HFA.out _).mono ?_); rintro e w1 ⟨rfl, rfl⟩))
    go_ret
    exact ⟨rfl, tb⟩
end Go.Proofs.YtafmldooephmaaaDoor
