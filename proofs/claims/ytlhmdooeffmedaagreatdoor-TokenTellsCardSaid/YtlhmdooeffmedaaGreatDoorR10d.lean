/- Walks: the reference of tokens: Value, Quote. -/
import Derived.Test.YtlhmdooeffmedaaGreatDoorR10c
import Derived.Test.YtlhmdooeffmedaaGreatDoorTk6
namespace Go.Proofs.YtlhmdooeffmedaaGreatDoor
open Go.RowKit Pk Tk Su Fo

theorem bslT : ByteSl Tryz.prog 38 5 where
  ht := Tryz.underlying38
  he := Tryz.underlying5
  hi := info_parts (show (Tryz.prog.info? 5).map (fun i => (i.zero, i.size, i.bytes)) = some (some (.int .u8 0), 1, 1) by kernel_rfl)
set_option maxRecDepth 100000 in
theorem rvalue_short (k : Int) (T : ByteArray) (w : World) (hs : T.size ≤ 100000000) (h : ¬ ((k = 2 ∨ k = 3) ∧ 2 ≤ T.size)) : Calls Tryz.prog 16 #[.agg #[.int .i64 k, .string T]] w (StrIs (valI k T.data.toList) w) := by
  by_cases k2 : k = 2
  · have hT : T.size < 2 := by omega
    subst k2
    have hpost := Lib.hid (fun w' hb => val_plain (w := w) (w' := w') h hb)
    clear h
    go_enter Tryz.func16, Tryz.ntmps16
    go_wp2
    go_ret
    exact hpost.out _ ((Below.refl _ _).alloc (Nat.le_refl _) _)
  · have q2 : (k != 2) = true := bne_iff_ne.2 k2
    by_cases k3 : k = 3
    · have hT : T.size < 2 := by omega
      subst k3
      have hpost := Lib.hid (fun w' hb => val_plain (w := w) (w' := w') h hb)
      clear h
      go_enter Tryz.func16, Tryz.ntmps16
      go_wp2
      go_ret
      exact hpost.out _ ((Below.refl _ _).alloc (Nat.le_refl _) _)
    · have q3 : (k != 3) = true := bne_iff_ne.2 k3
      clear k2 k3
      have hpost := Lib.hid (fun w' hb => val_plain (w := w) (w' := w') h hb)
      clear h
      go_enter Tryz.func16, Tryz.ntmps16
      go_wp2
      go_ret
      exact hpost.out _ ((Below.refl _ _).alloc (Nat.le_refl _) _)
theorem ueR_step {s : ByteArray} {k : Nat} {acc X : List UInt8} (h : Hid (acc ++ ue false (tl s k) = X)) (hk : k < s.size) :
    (∀ h2 : k + 1 < s.size, s[k] = 92 → Hid (acc ++ [s[k + 1]] ++ ue false (tl s (k + 1 + 1)) = X)) ∧ (¬ k + 1 < s.size → s[k] = 92 → Hid (acc ++ ue false (tl s (k + 1 + 1)) = X)) ∧
    (s[k] ≠ 92 → (s[k] = 10 ∨ s[k] = 13) → Hid (acc ++ ue false (tl s (k + 1)) = X)) ∧ (s[k] ≠ 92 → s[k] ≠ 10 → s[k] ≠ 13 → Hid (acc ++ [s[k]] ++ ue false (tl s (k + 1)) = X)) := by
  obtain ⟨_, s2, s3, s4⟩ := ue_step h hk
  refine ⟨fun h2 h1 => (ue_step (s2 rfl h1) h2).1 rfl, fun h2 h1 => ?_, s3 rfl, s4 rfl⟩
  have e := (s2 rfl h1).out
  rw [tl_end s (k + 1) (by omega)] at e
  show _ = _
  rw [tl_end s (k + 1 + 1) (by omega), ← e]; simp [ue]
set_option maxHeartbeats 4000000 in
set_option maxRecDepth 100000 in
theorem rvalue_long (k : Int) (T : ByteArray) (w : World) (hs : T.size ≤ 100000000) (hk : k = 2 ∨ k = 3) (hT : 2 ≤ T.size) : Calls Tryz.prog 16 #[.agg #[.int .i64 k, .string T]] w (StrIs (valI k T.data.toList) w) := by
  have hX : valI k T.data.toList = ue false (tl (T.extract 1 (T.size - 1)) 0) := by
    unfold valI
    rw [if_pos ⟨hk, hT⟩, tl_zero, Lib.extract_data, dataL]; rfl
  rw [hX]
  have hPs : (T.extract 1 (T.size - 1)).size = T.size - 2 := by rw [ext_size]; omega
  have hti : ((T.size : Int) - 1).toNat = T.size - 1 := by omega
  have z1 : (1 : Int) ≤ (T.size : Int) - 1 := by omega
  have z2 : (T.size : Int) - 1 ≤ (T.size : Int) := by omega
  generalize hE : T.extract 1 (T.size - 1) = P at hPs ⊢
  clear hX
  obtain ⟨X, hX⟩ : ∃ X, X = ue false (tl P 0) := ⟨_, rfl⟩
  have hst0 : Hid ([] ++ ue false (tl P 0) = X) := hX.symm
  rw [← hX]
  clear hX
  have HPS := Lib.hid hPs
  clear hPs
  rcases hk with rfl | rfl
  · go_enter Tryz.func16, Tryz.ntmps16
    go_wp2
    go_loopw [4, 5] (fun ov iv wr => ∃ (i : Nat) (acc : List UInt8), iv = .int .i64 i ∧ ownsB wr w.heap.size 5 ov acc ∧ Below w.heap.size w wr ∧ i ≤ P.size + 1 ∧ acc.length ≤ i ∧ Hid (acc ++ ue false (tl P i) = X)) (fun _ iv _ => P.size + 1 - (intOf iv).toNat)
    case atStart => exact ⟨0, [], by first | rfl | trivial, ownsB.nil _ _ _, (Below.refl _ _).alloc (Nat.le_refl _) _, by omega, by simp, hst0⟩
    case round =>
      clear hst0 hE hti z1 z2
      obtain ⟨i, acc, rfl, hown, hbel, hi, hal, hrel⟩ := hrel
      have hsz := hbel.size
      have hP : P.size ≤ 100000000 := by have := HPS.out; omega
      by_cases hlt : i < P.size
      · obtain ⟨s1, s2, s3, s4⟩ := ueR_step hrel hlt
        have qa : ((P[i].toNat : Int) == 92) = decide (P[i] = 92) := u8k 92 (by decide)
        have qb : ((P[i].toNat : Int) != 10) = !decide (P[i] = 10) := by unfold bne; rw [show ((P[i].toNat : Int) == 10) = decide (P[i] = 10) from u8k 10 (by decide)]
        have qc : ((P[i].toNat : Int) != 13) = !decide (P[i] = 13) := by unfold bne; rw [show ((P[i].toNat : Int) == 13) = decide (P[i] = 13) from u8k 13 (by decide)]
        by_cases h92 : P[i] = 92
        · rw [decide_eq_true h92] at qa
          by_cases hlt2 : i + 1 < P.size
          · have hd := s1 hlt2 h92
            clear s1 s2 s3 s4 hrel qb qc h92
            go_wp2_with (at_builtin; refine append_bytes _ rfl (.tmp 45) (.tmp 49) bslT rfl w.heap.size _ _ rfl (hown.alloc _) ⟨_, 0, none⟩ 1 1 [_] rfl rfl (cells_new _ _ _) (by first | omega | (simp; done) | (simp; omega)) (by first | omega | (simp; done) | (simp; omega)) ?_; intro v6 w6 hown6 hg6; have hb6 := Below_grown (hbel.alloc hsz _) (hown.alloc _) hg6 (by first | omega | (simp; done) | (simp; omega)); have hz6 := hb6.size; clear hg6)
            go_roundw
            case rel => exact ⟨i + 1 + 1, _, by go_num, hown6, hb6, by omega, by simp; omega, hd⟩
            case measure => simp [intOf]; omega
          · have hd := s2 hlt2 h92
            clear s1 s2 s3 s4 hrel qb qc h92
            go_wp2
            go_roundw
            case rel => exact ⟨i + 1 + 1, _, by go_num, hown, hbel, by omega, by omega, hd⟩
            case measure => simp [intOf]; omega
        · rw [decide_eq_false h92] at qa
          by_cases h10 : P[i] = 10
          · have hd := s3 h92 (.inl h10)
            rw [decide_eq_true h10] at qb
            clear s1 s2 s3 s4 hrel qc h92 h10
            go_wp2
            go_roundw
            case rel => exact ⟨i + 1, _, by go_num, hown, hbel, by omega, by omega, hd⟩
            case measure => simp [intOf]; omega
          · rw [decide_eq_false h10] at qb
            by_cases h13 : P[i] = 13
            · have hd := s3 h92 (.inr h13)
              rw [decide_eq_true h13] at qc
              clear s1 s2 s3 s4 hrel h92 h10 h13
              go_wp2
              go_roundw
              case rel => exact ⟨i + 1, _, by go_num, hown, hbel, by omega, by omega, hd⟩
              case measure => simp [intOf]; omega
            · have hd := s4 h92 h10 h13
              rw [decide_eq_false h13] at qc
              clear s1 s2 s3 s4 hrel h92 h10 h13
              go_wp2_with (at_builtin; refine append_bytes _ rfl (.tmp 61) (.tmp 65) bslT rfl w.heap.size _ _ rfl (hown.alloc _) ⟨_, 0, none⟩ 1 1 [_] rfl rfl (cells_new _ _ _) (by first | omega | (simp; done) | (simp; omega)) (by first | omega | (simp; done) | (simp; omega)) ?_; intro v6 w6 hown6 hg6; have hb6 := Below_grown (hbel.alloc hsz _) (hown.alloc _) hg6 (by first | omega | (simp; done) | (simp; omega)); have hz6 := hb6.size; clear hg6)
              go_roundw
              case rel => exact ⟨i + 1, _, by go_num, hown6, hb6, by omega, by simp; omega, hd⟩
              case measure => simp [intOf]; omega
      · have he : acc = X := by
          have e := hrel.out
          rw [tl_end P i (by omega)] at e
          simpa [ue] using e
        subst he
        have hcv := run_string_owned (P := Tryz.prog) (ts := 9) bslT Tryz.underlying9 hown
        clear hrel
        go_wp2
        go_ret
        exact ⟨rfl, hbel⟩
  · go_enter Tryz.func16, Tryz.ntmps16
    go_wp2
    go_loopw [4, 5] (fun ov iv wr => ∃ (i : Nat) (acc : List UInt8), iv = .int .i64 i ∧ ownsB wr w.heap.size 5 ov acc ∧ Below w.heap.size w wr ∧ i ≤ P.size + 1 ∧ acc.length ≤ i ∧ Hid (acc ++ ue false (tl P i) = X)) (fun _ iv _ => P.size + 1 - (intOf iv).toNat)
    case atStart => exact ⟨0, [], by first | rfl | trivial, ownsB.nil _ _ _, (Below.refl _ _).alloc (Nat.le_refl _) _, by omega, by simp, hst0⟩
    case round =>
      clear hst0 hE hti z1 z2
      obtain ⟨i, acc, rfl, hown, hbel, hi, hal, hrel⟩ := hrel
      have hsz := hbel.size
      have hP : P.size ≤ 100000000 := by have := HPS.out; omega
      by_cases hlt : i < P.size
      · obtain ⟨s1, s2, s3, s4⟩ := ueR_step hrel hlt
        have qa : ((P[i].toNat : Int) == 92) = decide (P[i] = 92) := u8k 92 (by decide)
        have qb : ((P[i].toNat : Int) != 10) = !decide (P[i] = 10) := by unfold bne; rw [show ((P[i].toNat : Int) == 10) = decide (P[i] = 10) from u8k 10 (by decide)]
        have qc : ((P[i].toNat : Int) != 13) = !decide (P[i] = 13) := by unfold bne; rw [show ((P[i].toNat : Int) == 13) = decide (P[i] = 13) from u8k 13 (by decide)]
        by_cases h92 : P[i] = 92
        · rw [decide_eq_true h92] at qa
          by_cases hlt2 : i + 1 < P.size
          · have hd := s1 hlt2 h92
            clear s1 s2 s3 s4 hrel qb qc h92
            go_wp2_with (at_builtin; refine append_bytes _ rfl (.tmp 45) (.tmp 49) bslT rfl w.heap.size _ _ rfl (hown.alloc _) ⟨_, 0, none⟩ 1 1 [_] rfl rfl (cells_new _ _ _) (by first | omega | (simp; done) | (simp; omega)) (by first | omega | (simp; done) | (simp; omega)) ?_; intro v6 w6 hown6 hg6; have hb6 := Below_grown (hbel.alloc hsz _) (hown.alloc _) hg6 (by first | omega | (simp; done) | (simp; omega)); have hz6 := hb6.size; clear hg6)
            go_roundw
            case rel => exact ⟨i + 1 + 1, _, by go_num, hown6, hb6, by omega, by simp; omega, hd⟩
            case measure => simp [intOf]; omega
          · have hd := s2 hlt2 h92
            clear s1 s2 s3 s4 hrel qb qc h92
            go_wp2
            go_roundw
            case rel => exact ⟨i + 1 + 1, _, by go_num, hown, hbel, by omega, by omega, hd⟩
            case measure => simp [intOf]; omega
        · rw [decide_eq_false h92] at qa
          by_cases h10 : P[i] = 10
          · have hd := s3 h92 (.inl h10)
            rw [decide_eq_true h10] at qb
            clear s1 s2 s3 s4 hrel qc h92 h10
            go_wp2
            go_roundw
            case rel => exact ⟨i + 1, _, by go_num, hown, hbel, by omega, by omega, hd⟩
            case measure => simp [intOf]; omega
          · rw [decide_eq_false h10] at qb
            by_cases h13 : P[i] = 13
            · have hd := s3 h92 (.inr h13)
              rw [decide_eq_true h13] at qc
              clear s1 s2 s3 s4 hrel h92 h10 h13
              go_wp2
              go_roundw
              case rel => exact ⟨i + 1, _, by go_num, hown, hbel, by omega, by omega, hd⟩
              case measure => simp [intOf]; omega
            · have hd := s4 h92 h10 h13
              rw [decide_eq_false h13] at qc
              clear s1 s2 s3 s4 hrel h92 h10 h13
              go_wp2_with (at_builtin; refine append_bytes _ rfl (.tmp 61) (.tmp 65) bslT rfl w.heap.size _ _ rfl (hown.alloc _) ⟨_, 0, none⟩ 1 1 [_] rfl rfl (cells_new _ _ _) (by first | omega | (simp; done) | (simp; omega)) (by first | omega | (simp; done) | (simp; omega)) ?_; intro v6 w6 hown6 hg6; have hb6 := Below_grown (hbel.alloc hsz _) (hown.alloc _) hg6 (by first | omega | (simp; done) | (simp; omega)); have hz6 := hb6.size; clear hg6)
              go_roundw
              case rel => exact ⟨i + 1, _, by go_num, hown6, hb6, by omega, by simp; omega, hd⟩
              case measure => simp [intOf]; omega
      · have he : acc = X := by
          have e := hrel.out
          rw [tl_end P i (by omega)] at e
          simpa [ue] using e
        subst he
        have hcv := run_string_owned (P := Tryz.prog) (ts := 9) bslT Tryz.underlying9 hown
        clear hrel
        go_wp2
        go_ret
        exact ⟨rfl, hbel⟩
theorem rvalue_any (k : Int) (T : ByteArray) (w : World) (hs : T.size ≤ 100000000) : Calls Tryz.prog 16 #[.agg #[.int .i64 k, .string T]] w (StrIs (valI k T.data.toList) w) := by
  by_cases h : (k = 2 ∨ k = 3) ∧ 2 ≤ T.size
  · exact rvalue_long k T w hs h.1 h.2
  · exact rvalue_short k T w hs h
end Go.Proofs.YtlhmdooeffmedaaGreatDoor
