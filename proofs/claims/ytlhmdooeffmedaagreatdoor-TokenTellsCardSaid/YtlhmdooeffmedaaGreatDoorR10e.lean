/- Walks: the reference of tokens: Quote. -/
import Derived.Test.YtlhmdooeffmedaaGreatDoorR10d
namespace Go.Proofs.YtlhmdooeffmedaaGreatDoor
open Go.RowKit Pk Tk Su Fo

theorem okAt_cases (s : ByteArray) (k : Nat) (h : k < s.size) :
    (atm s[k] = true ∧ s[k] ≠ 32 ∧ okAt s k h = true) ∨
    (atm s[k] = false ∧ s[k] ≠ 32 ∧ okAt s k h = false) ∨
    (atm s[k] = false ∧ s[k] = 32 ∧ k = 0 ∧ okAt s k h = false) ∨
    (atm s[k] = false ∧ s[k] = 32 ∧ 0 < k ∧ ¬ k + 1 < s.size ∧ okAt s k h = false) ∨
    (atm s[k] = false ∧ s[k] = 32 ∧ ∃ (h1 : 0 < k) (h2 : k + 1 < s.size), s[k - 1] = 32 ∧ okAt s k h = false) ∨
    (atm s[k] = false ∧ s[k] = 32 ∧ ∃ (h1 : 0 < k) (h2 : k + 1 < s.size), s[k - 1] ≠ 32 ∧ s[k + 1] = 32 ∧ okAt s k h = false) ∨
    (atm s[k] = false ∧ s[k] = 32 ∧ ∃ (h1 : 0 < k) (h2 : k + 1 < s.size), s[k - 1] ≠ 32 ∧ s[k + 1] ≠ 32 ∧ okAt s k h = true) := by
  by_cases hc : s[k] = 32
  · have ha : atm s[k] = false := by rw [hc]; decide
    have e0 : okAt s k h = (is32 (prev s k) && hd32 (tl s (k + 1))) := by unfold okAt; rw [ha, hc]; rfl
    cases k with
    | zero => exact .inr (.inr (.inl ⟨ha, hc, rfl, by rw [e0]; rfl⟩))
    | succ j =>
      have ep : is32 (prev s (j + 1)) = !(s[j] == 32) := by
        have : prev s (j + 1) = some s[j] := by
          show s.data.toList[j]? = _
          rw [List.getElem?_eq_getElem (by show j < s.size; omega)]; rfl
        rw [this]; rfl
      by_cases h2 : j + 1 + 1 < s.size
      · have eh : hd32 (tl s (j + 1 + 1)) = !(s[j + 1 + 1] == 32) := by rw [tl_cons s _ h2]; rfl
        rw [ep, eh] at e0
        by_cases hp : s[j] = 32
        · exact .inr (.inr (.inr (.inr (.inl ⟨ha, hc, Nat.succ_pos _, h2, hp, by rw [e0, hp]; rfl⟩))))
        · have q : (s[j] == 32) = false := beq_eq_false_iff_ne.2 hp
          by_cases hn : s[j + 1 + 1] = 32
          · exact .inr (.inr (.inr (.inr (.inr (.inl ⟨ha, hc, Nat.succ_pos _, h2, hp, hn, by rw [e0, hn]; simp⟩)))))
          · have q2 : (s[j + 1 + 1] == 32) = false := beq_eq_false_iff_ne.2 hn
            exact .inr (.inr (.inr (.inr (.inr (.inr ⟨ha, hc, Nat.succ_pos _, h2, hp, hn, by rw [e0, q, q2]; rfl⟩)))))
      · have eh : hd32 (tl s (j + 1 + 1)) = false := by rw [tl_end s _ (by omega)]; rfl
        exact .inr (.inr (.inr (.inl ⟨ha, hc, Nat.succ_pos _, h2, by rw [e0, eh, Bool.and_false]⟩)))
  · have q : (s[k] == 32) = false := beq_eq_false_iff_ne.2 hc
    cases ha : atm s[k] with
    | true => exact .inl ⟨rfl, hc, by unfold okAt; rw [ha]; rfl⟩
    | false => exact .inr (.inl ⟨rfl, hc, by unfold okAt; rw [ha, q]; rfl⟩)
theorem rep_step {s : ByteArray} {k : Nat} {acc X : List UInt8} (h : Hid (acc ++ repL (tl s k) = X)) (hk : k < s.size) :
    ((s[k] = 92 ∨ s[k] = 34 ∨ s[k] = 10 ∨ s[k] = 13) → Hid (acc ++ [b8 92] ++ [s[k]] ++ repL (tl s (k + 1)) = X)) ∧ (s[k] ≠ 92 → s[k] ≠ 34 → s[k] ≠ 10 → s[k] ≠ 13 → Hid (acc ++ [s[k]] ++ repL (tl s (k + 1)) = X)) := by
  have e := h.out
  have e1 : repL (s[k] :: tl s (k + 1)) = esc s[k] ++ repL (tl s (k + 1)) := List.flatMap_cons ..
  rw [tl_cons s k hk, e1] at e
  refine ⟨fun h1 => ?_, fun h1 h2 h3 h4 => ?_⟩
  · have : esc s[k] = [92, s[k]] := by unfold esc; rw [if_pos h1]
    rw [this] at e
    show _ = _
    rw [← e, show b8 92 = 92 by decide]; simp
  · have : esc s[k] = [s[k]] := by unfold esc; rw [if_neg (by rintro (x | x | x | x) <;> contradiction)]
    rw [this] at e
    show _ = _
    rw [← e]; simp
theorem rep_end {s : ByteArray} {k : Nat} {acc X : List UInt8} (h : Hid (acc ++ repL (tl s k) = X)) (hk : ¬ k < s.size) : acc = X := by
  have e := h.out
  rw [tl_end s k (by omega)] at e
  simpa [repL] using e
theorem rep_room {s : ByteArray} {k : Nat} {acc X : List UInt8} (h : Hid (acc ++ repL (tl s k) = X)) : acc.length ≤ X.length := by
  have e := h.out
  rw [← e, List.length_append]; omega
set_option maxHeartbeats 8000000 in
set_option maxRecDepth 100000 in
theorem rquote_any (s : ByteArray) (w : World) (hs : s.size ≤ 1000000) : Calls Tryz.prog 14 #[.string s] w (StrIs (quoteL s.data.toList) w) := by
  have h0 : (!(s.toList == ([] : List UInt8))) = !s.data.toList.isEmpty := by
    rw [Lib.toList_data]; cases s.data.toList <;> rfl
  have hst : Hid (OkIs s (!s.data.toList.isEmpty) 0) := ok_start s
  have HQ : Hid (∀ b, quoteL s.data.toList = b → quoteL s.data.toList = b) := fun _ h => h
  obtain ⟨b0, hb0⟩ : ∃ b0, (!s.data.toList.isEmpty) = b0 := ⟨_, rfl⟩
  rw [hb0] at hst
  have hb1 : (!s.toList.isEmpty) = b0 := by rw [Lib.toList_data]; exact hb0
  have hAtm := Lib.hid ratom_any
  go_enter Tryz.func14, Tryz.ntmps14
  go_wp2
  go_loop [3, 4, 5] (fun bv iv _ => ∃ (k : Nat) (b : Bool), k ≤ s.size ∧ bv = .bool b ∧ iv = .int .i64 k ∧ Hid (OkIs s b k)) (fun _ iv _ => s.size - (intOf iv).toNat)
  case atStart => exact ⟨0, b0, by omega, by first | rfl | (rw [← hb1]; simp) | (simp; exact hb1), by first | rfl | trivial, hst⟩
  case round =>
    clear hst hb0 hb1 h0
    obtain ⟨k, b, hk, rfl, rfl, hrel⟩ := hrel
    by_cases hlt : k < s.size
    · have hA := fun w => hAtm.out s[k] w
      have q32 : ((s[k].toNat : Int) == 32) = decide (s[k] = 32) := u8k 32 (by decide)
      rcases okAt_cases s k hlt with ⟨ha, hc, hok⟩ | ⟨ha, hc, hok⟩ | ⟨ha, hc, hk0, hok⟩ | ⟨ha, hc, h1, h2, hok⟩ | ⟨ha, hc, h1, h2, hp, hok⟩ | ⟨ha, hc, h1, h2, hp, hn, hok⟩ | ⟨ha, hc, h1, h2, hp, hn, hok⟩
      · rw [ha] at hA
        rw [decide_eq_false hc] at q32
        have HA := Lib.hid hA
        clear hA hc ha
        have hd := Lib.hid (ok_step hrel.out hlt)
        rw [hok, Bool.and_true] at hd
        clear hrel hok
        go_wp2_with (go_at_call 24; refine (HA.out _).mono ?_; rintro e w' ⟨rfl, rfl⟩)
        go_round
        case rel => exact ⟨k + 1, b, by omega, rfl, by go_num, hd⟩
        case measure => simp [intOf]; omega
      · rw [ha] at hA
        rw [decide_eq_false hc] at q32
        have HA := Lib.hid hA
        clear hA hc ha
        have hd := Lib.hid (ok_step hrel.out hlt)
        rw [hok, Bool.and_false] at hd
        clear hrel hok
        go_wp2_with (go_at_call 24; refine (HA.out _).mono ?_; rintro e w' ⟨rfl, rfl⟩)
        go_round
        case rel => exact ⟨k + 1, false, by omega, rfl, by go_num, hd⟩
        case measure => simp [intOf]; omega
      · rw [ha] at hA
        rw [decide_eq_true hc] at q32
        have HA := Lib.hid hA
        have q0 : decide ((0 : Int) < (k : Int)) = false := decide_eq_false (by omega)
        have q1 : decide (0 < k) = false := decide_eq_false (by omega)
        clear hA hc ha hk0
        have hd := Lib.hid (ok_step hrel.out hlt)
        rw [hok, Bool.and_false] at hd
        clear hrel hok
        go_wp2_with (go_at_call 24; refine (HA.out _).mono ?_; rintro e w' ⟨rfl, rfl⟩)
        go_round
        case rel => exact ⟨k + 1, false, by omega, rfl, by go_num, hd⟩
        case measure => simp [intOf]; omega
      · rw [ha] at hA
        rw [decide_eq_true hc] at q32
        have HA := Lib.hid hA
        have q0 : decide ((0 : Int) < (k : Int)) = true := decide_eq_true (by omega)
        have q1 : decide ((k : Int) + 1 < (s.size : Int)) = false := decide_eq_false (by omega)
        clear hA hc ha
        have hd := Lib.hid (ok_step hrel.out hlt)
        rw [hok, Bool.and_false] at hd
        clear hrel hok
        go_wp2_with (go_at_call 24; refine (HA.out _).mono ?_; rintro e w' ⟨rfl, rfl⟩)
        go_round
        case rel => exact ⟨k + 1, false, by omega, rfl, by go_num, hd⟩
        case measure => simp [intOf]; omega
      · rw [ha] at hA
        rw [decide_eq_true hc] at q32
        have HA := Lib.hid hA
        have q0 : decide ((0 : Int) < (k : Int)) = true := decide_eq_true (by omega)
        have q1 : decide ((k : Int) + 1 < (s.size : Int)) = true := decide_eq_true (by omega)
        have qp : ((s[k - 1].toNat : Int) != 32) = false := by rw [hp]; rfl
        have z3 : ((k : Int) - 1).toNat = k - 1 := by omega
        have z4 : (0 : Int) ≤ (k : Int) - 1 := by omega
        clear hA hc ha hp
        have hd := Lib.hid (ok_step hrel.out hlt)
        rw [hok, Bool.and_false] at hd
        clear hrel hok
        go_wp2_with (go_at_call 24; refine (HA.out _).mono ?_; rintro e w' ⟨rfl, rfl⟩)
        go_round
        case rel => exact ⟨k + 1, false, by omega, rfl, by go_num, hd⟩
        case measure => simp [intOf]; omega
      · rw [ha] at hA
        rw [decide_eq_true hc] at q32
        have HA := Lib.hid hA
        have q0 : decide ((0 : Int) < (k : Int)) = true := decide_eq_true (by omega)
        have q1 : decide ((k : Int) + 1 < (s.size : Int)) = true := decide_eq_true (by omega)
        have qp : ((s[k - 1].toNat : Int) != 32) = true := by unfold bne; rw [show ((s[k - 1].toNat : Int) == 32) = decide (s[k - 1] = 32) from u8k 32 (by decide), decide_eq_false hp]; rfl
        have qn : ((s[k + 1].toNat : Int) != 32) = false := by rw [hn]; rfl
        have z3 : ((k : Int) - 1).toNat = k - 1 := by omega
        have z4 : (0 : Int) ≤ (k : Int) - 1 := by omega
        clear hA hc ha hp hn
        have hd := Lib.hid (ok_step hrel.out hlt)
        rw [hok, Bool.and_false] at hd
        clear hrel hok
        go_wp2_with (go_at_call 24; refine (HA.out _).mono ?_; rintro e w' ⟨rfl, rfl⟩)
        go_round
        case rel => exact ⟨k + 1, false, by omega, rfl, by go_num, hd⟩
        case measure => simp [intOf]; omega
      · rw [ha] at hA
        rw [decide_eq_true hc] at q32
        have HA := Lib.hid hA
        have q0 : decide ((0 : Int) < (k : Int)) = true := decide_eq_true (by omega)
        have q1 : decide ((k : Int) + 1 < (s.size : Int)) = true := decide_eq_true (by omega)
        have qp : ((s[k - 1].toNat : Int) != 32) = true := by unfold bne; rw [show ((s[k - 1].toNat : Int) == 32) = decide (s[k - 1] = 32) from u8k 32 (by decide), decide_eq_false hp]; rfl
        have qn : ((s[k + 1].toNat : Int) != 32) = true := by unfold bne; rw [show ((s[k + 1].toNat : Int) == 32) = decide (s[k + 1] = 32) from u8k 32 (by decide), decide_eq_false hn]; rfl
        have z3 : ((k : Int) - 1).toNat = k - 1 := by omega
        have z4 : (0 : Int) ≤ (k : Int) - 1 := by omega
        clear hA hc ha hp hn
        have hd := Lib.hid (ok_step hrel.out hlt)
        rw [hok, Bool.and_true] at hd
        clear hrel hok
        go_wp2_with (go_at_call 24; refine (HA.out _).mono ?_; rintro e w' ⟨rfl, rfl⟩)
        go_round
        case rel => exact ⟨k + 1, b, by omega, rfl, by go_num, hd⟩
        case measure => simp [intOf]; omega
    · have hq := ok_end hrel.out hlt
      clear hrel
      cases b with
      | true =>
        have hpost : Hid (StrIs (quoteL s.data.toList) w (.returned (.string s)) w) := by
          show StrIs _ _ _ _
          unfold StrIs quoteL
          rw [if_pos hq]
          exact ⟨by simp, Below.refl _ _⟩
        clear hq
        go_wp2
        go_ret
        exact hpost.out
      | false =>
        obtain ⟨X, hX⟩ : ∃ X, X = 34 :: repL s.data.toList := ⟨_, rfl⟩
        have hpost : Hid (∀ w', Below w.heap.size w w' → StrIs (quoteL s.data.toList) w (.returned (.string ⟨(X ++ [b8 34]).toArray⟩)) w') := fun w' hb => by
          unfold StrIs quoteL
          rw [if_neg (by rw [hq]; decide), hX, show b8 34 = 34 by decide]
          exact ⟨rfl, hb⟩
        have hst : Hid ([34] ++ repL (tl s 0) = X) := by show _ = _; rw [hX, tl_zero]; rfl
        have hXl : X.length ≤ 2000001 := by
          have := (rep_length s.data.toList).2
          rw [dataL] at this
          rw [hX, List.length_cons]; omega
        have hown0 := ownsB.lit w [34] 5 1 rfl (by decide)
        clear hq hX
        go_wp2
        go_loopw [6, 7] (fun ov iv wr => ∃ (j : Nat) (acc : List UInt8), iv = .int .i64 j ∧ ownsB wr w.heap.size 5 ov acc ∧ Below w.heap.size w wr ∧ j ≤ s.size ∧ Hid (acc ++ repL (tl s j) = X)) (fun _ iv _ => s.size - (intOf iv).toNat)
        case atStart => exact ⟨0, [34], by first | rfl | trivial, hown0, (Below.refl _ _).alloc (Nat.le_refl _) _, by omega, hst⟩
        case round =>
          clear hst hown0
          obtain ⟨j, acc, rfl, hown, hbel, hj, hrel⟩ := hrel
          have hsz := hbel.size
          have hrm := rep_room hrel
          by_cases hlt : j < s.size
          · obtain ⟨s1, s2⟩ := rep_step hrel hlt
            have q1 : ((s[j].toNat : Int) == 34) = decide (s[j] = 34) := u8k 34 (by decide)
            have q2 : ((s[j].toNat : Int) == 92) = decide (s[j] = 92) := u8k 92 (by decide)
            have q3 : ((s[j].toNat : Int) == 10) = decide (s[j] = 10) := u8k 10 (by decide)
            have q4 : ((s[j].toNat : Int) == 13) = decide (s[j] = 13) := u8k 13 (by decide)
            by_cases c1 : s[j] = 34
            · rw [decide_eq_true c1] at q1
              clear q2 q3 q4
              have hd := s1 (.inr (.inl c1))
              clear s1 s2 hrel c1
              go_wp2_with (first
                | (at_builtin; refine append_bytes _ rfl (.tmp 85) (.tmp 86) bslT rfl w.heap.size _ _ rfl (hown.alloc _) ⟨_, 0, none⟩ 1 1 [b8 _] rfl rfl (cells_byte _ _ _ (by omega) (by omega)) (by first | omega | (simp; done) | (simp; omega)) (by first | omega | (simp; done) | (simp; omega)) ?_; intro v6 w6 hown6 hg6; have hb6 := Below_grown (hbel.alloc hsz _) (hown.alloc _) hg6 (by first | omega | (simp; done) | (simp; omega)); have hz6 := hb6.size; clear hg6)
                | (at_builtin; refine append_bytes _ rfl (.tmp 88) (.tmp 92) bslT rfl w.heap.size _ _ rfl (hown6.alloc _) ⟨_, 0, none⟩ 1 1 [_] rfl rfl (cells_new _ _ _) (by first | omega | (simp; done) | (simp; omega)) (by first | omega | (simp; done) | (simp; omega)) ?_; intro v7 w7 hown7 hg7; have hb7 := Below_grown (hb6.alloc hz6 _) (hown6.alloc _) hg7 (by first | omega | (simp; done) | (simp; omega)); have hz7 := hb7.size; clear hg7))
              go_roundw
              case rel => exact ⟨j + 1, _, by go_num, hown7, hb7, by omega, hd⟩
              case measure => simp [intOf]; omega
            · rw [decide_eq_false c1] at q1
              by_cases c2 : s[j] = 92
              · rw [decide_eq_true c2] at q2
                clear q3 q4
                have hd := s1 (.inl c2)
                clear s1 s2 hrel c1 c2
                go_wp2_with (first
                  | (at_builtin; refine append_bytes _ rfl (.tmp 85) (.tmp 86) bslT rfl w.heap.size _ _ rfl (hown.alloc _) ⟨_, 0, none⟩ 1 1 [b8 _] rfl rfl (cells_byte _ _ _ (by omega) (by omega)) (by first | omega | (simp; done) | (simp; omega)) (by first | omega | (simp; done) | (simp; omega)) ?_; intro v6 w6 hown6 hg6; have hb6 := Below_grown (hbel.alloc hsz _) (hown.alloc _) hg6 (by first | omega | (simp; done) | (simp; omega)); have hz6 := hb6.size; clear hg6)
                  | (at_builtin; refine append_bytes _ rfl (.tmp 88) (.tmp 92) bslT rfl w.heap.size _ _ rfl (hown6.alloc _) ⟨_, 0, none⟩ 1 1 [_] rfl rfl (cells_new _ _ _) (by first | omega | (simp; done) | (simp; omega)) (by first | omega | (simp; done) | (simp; omega)) ?_; intro v7 w7 hown7 hg7; have hb7 := Below_grown (hb6.alloc hz6 _) (hown6.alloc _) hg7 (by first | omega | (simp; done) | (simp; omega)); have hz7 := hb7.size; clear hg7))
                go_roundw
                case rel => exact ⟨j + 1, _, by go_num, hown7, hb7, by omega, hd⟩
                case measure => simp [intOf]; omega
              · rw [decide_eq_false c2] at q2
                by_cases c3 : s[j] = 10
                · rw [decide_eq_true c3] at q3
                  clear q4
                  have hd := s1 (.inr (.inr (.inl c3)))
                  clear s1 s2 hrel c1 c2 c3
                  go_wp2_with (first
                    | (at_builtin; refine append_bytes _ rfl (.tmp 85) (.tmp 86) bslT rfl w.heap.size _ _ rfl (hown.alloc _) ⟨_, 0, none⟩ 1 1 [b8 _] rfl rfl (cells_byte _ _ _ (by omega) (by omega)) (by first | omega | (simp; done) | (simp; omega)) (by first | omega | (simp; done) | (simp; omega)) ?_; intro v6 w6 hown6 hg6; have hb6 := Below_grown (hbel.alloc hsz _) (hown.alloc _) hg6 (by first | omega | (simp; done) | (simp; omega)); have hz6 := hb6.size; clear hg6)
                    | (at_builtin; refine append_bytes _ rfl (.tmp 88) (.tmp 92) bslT rfl w.heap.size _ _ rfl (hown6.alloc _) ⟨_, 0, none⟩ 1 1 [_] rfl rfl (cells_new _ _ _) (by first | omega | (simp; done) | (simp; omega)) (by first | omega | (simp; done) | (simp; omega)) ?_; intro v7 w7 hown7 hg7; have hb7 := Below_grown (hb6.alloc hz6 _) (hown6.alloc _) hg7 (by first | omega | (simp; done) | (simp; omega)); have hz7 := hb7.size; clear hg7))
                  go_roundw
                  case rel => exact ⟨j + 1, _, by go_num, hown7, hb7, by omega, hd⟩
                  case measure => simp [intOf]; omega
                · rw [decide_eq_false c3] at q3
                  by_cases c4 : s[j] = 13
                  · rw [decide_eq_true c4] at q4
                    have hd := s1 (.inr (.inr (.inr c4)))
                    clear s1 s2 hrel c1 c2 c3 c4
                    go_wp2_with (first
                      | (at_builtin; refine append_bytes _ rfl (.tmp 85) (.tmp 86) bslT rfl w.heap.size _ _ rfl (hown.alloc _) ⟨_, 0, none⟩ 1 1 [b8 _] rfl rfl (cells_byte _ _ _ (by omega) (by omega)) (by first | omega | (simp; done) | (simp; omega)) (by first | omega | (simp; done) | (simp; omega)) ?_; intro v6 w6 hown6 hg6; have hb6 := Below_grown (hbel.alloc hsz _) (hown.alloc _) hg6 (by first | omega | (simp; done) | (simp; omega)); have hz6 := hb6.size; clear hg6)
                      | (at_builtin; refine append_bytes _ rfl (.tmp 88) (.tmp 92) bslT rfl w.heap.size _ _ rfl (hown6.alloc _) ⟨_, 0, none⟩ 1 1 [_] rfl rfl (cells_new _ _ _) (by first | omega | (simp; done) | (simp; omega)) (by first | omega | (simp; done) | (simp; omega)) ?_; intro v7 w7 hown7 hg7; have hb7 := Below_grown (hb6.alloc hz6 _) (hown6.alloc _) hg7 (by first | omega | (simp; done) | (simp; omega)); have hz7 := hb7.size; clear hg7))
                    go_roundw
                    case rel => exact ⟨j + 1, _, by go_num, hown7, hb7, by omega, hd⟩
                    case measure => simp [intOf]; omega
                  · rw [decide_eq_false c4] at q4
                    have hd := s2 c2 c1 c3 c4
                    clear s1 s2 hrel c1 c2 c3 c4
                    go_wp2_with (at_builtin; refine append_bytes _ rfl (.tmp 88) (.tmp 92) bslT rfl w.heap.size _ _ rfl (hown.alloc _) ⟨_, 0, none⟩ 1 1 [_] rfl rfl (cells_new _ _ _) (by first | omega | (simp; done) | (simp; omega)) (by first | omega | (simp; done) | (simp; omega)) ?_; intro v7 w7 hown7 hg7; have hb7 := Below_grown (hbel.alloc hsz _) (hown.alloc _) hg7 (by first | omega | (simp; done) | (simp; omega)); have hz7 := hb7.size; clear hg7)
                    go_roundw
                    case rel => exact ⟨j + 1, _, by go_num, hown7, hb7, by omega, hd⟩
                    case measure => simp [intOf]; omega
          · have he := rep_end hrel hlt
            subst he
            clear hrel
            go_wp2_with ((at_builtin; refine append_bytes _ rfl (.tmp 94) (.tmp 95) bslT rfl w.heap.size _ _ rfl (hown.alloc _) ⟨_, 0, none⟩ 1 1 [b8 _] rfl rfl (cells_byte _ _ _ (by omega) (by omega)) (by first | omega | (simp; done) | (simp; omega)) (by first | omega | (simp; done) | (simp; omega)) ?_; intro v7 w7 hown7 hg7; have hb7 := Below_grown (hbel.alloc hsz _) (hown.alloc _) hg7 (by first | omega | (simp; done) | (simp; omega)); have hz7 := hb7.size; clear hg7); have hcv := run_string_owned (P := Tryz.prog) (ts := 9) bslT Tryz.underlying9 hown7)
            go_ret
            exact hpost.out _ hb7
end Go.Proofs.YtlhmdooeffmedaaGreatDoor
