/- Walks: token: Value. -/
import Derived.Test.YtilccofdphohiaaGreatDoorTk5
import Derived.Test.YtilccofdphohiaaGreatDoorBldR
namespace Go.Proofs.YtilccofdphohiaaGreatDoor
open Go.RowKit Pk Tk Su Fo

theorem conv_bytesT (w : World) (s : ByteArray) : ∃ cp w2, (convert 9 45 (.string s)).run Tryz.prog w = .ok (.slice (some ⟨w.heap.size, 0, none⟩) s.size cp) w2 ∧ (∀ j (hj : j < s.size), w2.cell? ⟨w.heap.size, j, none⟩ = some (.int .u8 s[j].toNat)) ∧ Below w.heap.size w w2 ∧ w.heap.size < w2.heap.size := by
  refine ⟨_, _, Lib.run_convert_string_bytes w 9 45 5 s Tryz.underlying9 Tryz.underlying45 Tryz.underlying5, fun j hj => ?_, Lib.bytesWorld_below _ _ _, by rw [Lib.bytesWorld_size]; omega⟩
  rw [Lib.bytesWorld_cell _ _ _ _ hj]
  have : s.data.toList.getD j 0 = s[j] := by
    rw [List.getD_eq_getElem?_getD, List.getElem?_eq_getElem (by show j < s.size; exact hj)]; rfl
  rw [this]
theorem ue_step {s : ByteArray} {k : Nat} {b : Bool} {acc X : List UInt8} (h : Hid (acc ++ ue b (tl s k) = X)) (hk : k < s.size) :
    (b = true → Hid (acc ++ [s[k]] ++ ue false (tl s (k + 1)) = X)) ∧ (b = false → s[k] = 92 → Hid (acc ++ ue true (tl s (k + 1)) = X)) ∧
    (b = false → s[k] ≠ 92 → (s[k] = 10 ∨ s[k] = 13) → Hid (acc ++ ue false (tl s (k + 1)) = X)) ∧ (b = false → s[k] ≠ 92 → s[k] ≠ 10 → s[k] ≠ 13 → Hid (acc ++ [s[k]] ++ ue false (tl s (k + 1)) = X)) := by
  have e := h.out
  rw [tl_cons s k hk] at e
  refine ⟨fun h1 => ?_, fun h1 h2 => ?_, fun h1 h2 h3 => ?_, fun h1 h2 h3 h4 => ?_⟩
  · rw [h1, ue] at e; show _ = _; rw [← e]; simp
  · rw [h1, ue, if_pos h2] at e; exact e
  · rw [h1, ue, if_neg h2, if_pos h3] at e; exact e
  · rw [h1, ue, if_neg h2, if_neg (fun x => by rcases x with x | x; exact h3 x; exact h4 x)] at e; show _ = _; rw [← e]; simp
theorem ue_end {s : ByteArray} {k : Nat} {b : Bool} {acc X : List UInt8} (h : Hid (acc ++ ue b (tl s k) = X)) (hk : ¬ k < s.size) : acc = X := by
  have e := h.out
  rw [tl_end s k (by omega)] at e
  cases b <;> simpa [ue] using e
def valI (k : Int) (l : List UInt8) : List UInt8 := if (k = 2 ∨ k = 3) ∧ 2 ≤ l.length then ue false ((l.drop 1).take (l.length - 2)) else l
theorem valI_nat (k : Nat) (l : List UInt8) : valI (k : Int) l = valL k l := by
  unfold valI valL
  congr 1
  apply propext
  constructor <;> (rintro ⟨h1, h2⟩; exact ⟨by omega, h2⟩)
theorem val_plain {k : Int} {T : ByteArray} {w w' : World} (h : ¬ ((k = 2 ∨ k = 3) ∧ 2 ≤ T.size)) (hb : Below w.heap.size w w') : StrIs (valI k T.data.toList) w (.returned (.string T)) w' := by
  unfold StrIs valI
  rw [if_neg (show ¬ ((k = 2 ∨ k = 3) ∧ 2 ≤ T.data.toList.length) from h)]
  exact ⟨by simp, hb⟩
set_option maxRecDepth 100000 in
theorem value_short (k : Int) (T : ByteArray) (w : World) (hs : T.size ≤ 100000000) (h : ¬ ((k = 2 ∨ k = 3) ∧ 2 ≤ T.size)) : Calls Tryz.prog 82 #[.agg #[.int .i64 k, .string T]] w (StrIs (valI k T.data.toList) w) := by
  by_cases k2 : k = 2
  · have hT : T.size < 2 := by omega
    subst k2
    have hpost := Lib.hid (fun w' hb => val_plain (w := w) (w' := w') h hb)
    clear h
    go_enter Tryz.func82, Tryz.ntmps82
    go_wp2
    go_ret
    exact hpost.out _ ((Below.refl _ _).alloc (Nat.le_refl _) _)
  · have q2 : (k != 2) = true := bne_iff_ne.2 k2
    by_cases k3 : k = 3
    · have hT : T.size < 2 := by omega
      subst k3
      have hpost := Lib.hid (fun w' hb => val_plain (w := w) (w' := w') h hb)
      clear h
      go_enter Tryz.func82, Tryz.ntmps82
      go_wp2
      go_ret
      exact hpost.out _ ((Below.refl _ _).alloc (Nat.le_refl _) _)
    · have q3 : (k != 3) = true := bne_iff_ne.2 k3
      clear k2 k3
      have hpost := Lib.hid (fun w' hb => val_plain (w := w) (w' := w') h hb)
      clear h
      go_enter Tryz.func82, Tryz.ntmps82
      go_wp2
      go_ret
      exact hpost.out _ ((Below.refl _ _).alloc (Nat.le_refl _) _)
set_option maxHeartbeats 4000000 in
set_option maxRecDepth 100000 in
theorem value_long (k : Int) (T : ByteArray) (w : World) (hs : T.size ≤ 100000000) (hk : k = 2 ∨ k = 3) (hT : 2 ≤ T.size) : Calls Tryz.prog 82 #[.agg #[.int .i64 k, .string T]] w (StrIs (valI k T.data.toList) w) := by
  have hX : valI k T.data.toList = ue false (tl (T.extract 1 (T.size - 1)) 0) := by
    unfold valI
    rw [if_pos ⟨hk, hT⟩, tl_zero, Lib.extract_data, dataL]; rfl
  rw [hX]
  have hPs : (T.extract 1 (T.size - 1)).size = T.size - 2 := by rw [ext_size]; omega
  have hsl : ∀ W : World, ∃ cp w2, (convert 9 45 (.string (T.extract 1 (T.size - 1)))).run Tryz.prog W = .ok (.slice (some ⟨W.heap.size, 0, none⟩) (T.extract 1 (T.size - 1)).size cp) w2 ∧ (∀ j (hj : j < (T.extract 1 (T.size - 1)).size), w2.cell? ⟨W.heap.size, j, none⟩ = some (.int .u8 (T.extract 1 (T.size - 1))[j].toNat)) ∧ Below W.heap.size W w2 ∧ W.heap.size < w2.heap.size := fun W => conv_bytesT W _
  have hti : ((T.size : Int) - 1).toNat = T.size - 1 := by omega
  obtain ⟨W0, hW0⟩ : ∃ W0, W0 = ((w.alloc (.cells #[.int .i64 k, .string T] 43)).alloc (.cells #[.pointer none, .slice none 0 0] 92)) := ⟨_, rfl⟩
  obtain ⟨cp, w2, hcv, hcells, hb2, hz2⟩ := hsl W0
  have hbk : W0.heap[w.heap.size + 1]? = some (.cells #[.pointer none, .slice none 0 0] 92 (0, 0)) := by
    rw [hW0]
    have := heap_alloc_new (w.alloc (.cells #[.int .i64 k, .string T] 43)) (.cells #[.pointer none, .slice none 0 0] 92)
    simpa using this
  have hz0 : W0.heap.size = w.heap.size + 2 := by rw [hW0]; simp
  have hb0 : Below w.heap.size w W0 := by rw [hW0]; exact ((Below.refl _ _).alloc (Nat.le_refl _) _).alloc (by simp) _
  have hR2 : BldR w2 (W0.heap.size + 1) (w.heap.size + 1) [] := BldR.new ((hb2.block _ (by omega)).trans hbk)
  have hbel2 : Below w.heap.size w w2 := hb0.trans (hb2.mono (by omega))
  have hg : W0.heap.size = w.heap.size + 2 := hz0
  rw [hz0] at hcv hcells hR2 hz2
  rw [hW0] at hcv
  have HCE := Lib.hid hcells
  have HPS := Lib.hid hPs
  have z1 : (1 : Int) ≤ (T.size : Int) - 1 := by omega
  have z2 : (T.size : Int) - 1 ≤ (T.size : Int) := by omega
  generalize hE : T.extract 1 (T.size - 1) = P at hcv HCE HPS ⊢
  clear hX
  obtain ⟨X, hX⟩ : ∃ X, X = ue false (tl P 0) := ⟨_, rfl⟩
  have hst0 : Hid ([] ++ ue false (tl P 0) = X) := hX.symm
  rw [← hX]
  clear hsl hcells hb2 hb0 hbk hz0 hg hX hPs hW0
  rcases hk with rfl | rfl
  · go_enter Tryz.func82, Tryz.ntmps82
    go_wp2
    go_loopw [5, 32] (fun bv iv wr => ∃ (i : Nat) (b : Bool) (acc : List UInt8), bv = .bool b ∧ iv = .int .i64 i ∧ BldR wr (w.heap.size + 2 + 1) (w.heap.size + 1) acc ∧ KeptUnder (w.heap.size + 2 + 1) (w.heap.size + 1) w2 wr ∧ w.heap.size + 2 < wr.heap.size ∧ Below w.heap.size w wr ∧ i ≤ P.size ∧ acc.length ≤ i ∧ Hid (acc ++ ue b (tl P i) = X)) (fun _ iv _ => P.size - (intOf iv).toNat)
    case atStart => exact ⟨0, false, [], rfl, by first | rfl | trivial, hR2, KeptUnder.refl _ _ _, hz2, hbel2, by omega, by simp, hst0⟩
    case round =>
      clear hst0 hR2 hbel2 hcv hE hti z1 z2
      obtain ⟨i, b, acc, rfl, rfl, hB, hK, hgz, hbel, hi, hal, hrel⟩ := hrel
      have hP : P.size ≤ 100000000 := by have := HPS.out; omega
      by_cases hlt : i < P.size
      · obtain ⟨s1, s2, s3, s4⟩ := ue_step hrel hlt
        have hck : wr.cell? ⟨w.heap.size + 2, i, none⟩ = some (.int .u8 P[i].toNat) := (hK.cell (by omega) (by omega) i).trans (HCE.out i hlt)
        have qa : ((P[i].toNat : Int) == 92) = decide (P[i] = 92) := u8k 92 (by decide)
        have qb : ((P[i].toNat : Int) != 10) = !decide (P[i] = 10) := by unfold bne; rw [show ((P[i].toNat : Int) == 10) = decide (P[i] = 10) from u8k 10 (by decide)]
        have qc : ((P[i].toNat : Int) != 13) = !decide (P[i] = 13) := by unfold bne; rw [show ((P[i].toNat : Int) == 13) = decide (P[i] = 13) from u8k 13 (by decide)]
        generalize P[i] = c at s1 s2 s3 s4 hck qa qb qc
        cases b with
        | true =>
          have hd := s1 rfl
          clear s1 s2 s3 s4 hrel qa qb qc
          go_wp2_with (go_at_call 81; (with_reducible refine (wbR w.heap.size _ _ _ _ _ hB ?_ ?_ ?_ ?_).mono ?_); (omega); (omega); (omega); (omega); rintro e w' ⟨rfl, hB2, hb2, hk2⟩)
          go_roundw
          case rel => exact ⟨i + 1, false, _, rfl, by go_num, hB2, hK.trans hk2, by have := hb2.size; omega, hbel.trans hb2, by omega, by simp; omega, hd⟩
          case measure => simp [intOf]; omega
        | false =>
          by_cases h92 : c = 92
          · have hd := s2 rfl h92
            rw [decide_eq_true h92] at qa
            clear s1 s2 s3 s4 hrel qb qc h92
            go_wp2
            go_roundw
            case rel => exact ⟨i + 1, true, _, rfl, by go_num, hB, hK, by omega, hbel, by omega, by omega, hd⟩
            case measure => simp [intOf]; omega
          · rw [decide_eq_false h92] at qa
            by_cases h10 : c = 10
            · have hd := s3 rfl h92 (.inl h10)
              rw [decide_eq_true h10] at qb
              clear s1 s2 s3 s4 hrel qc h92 h10
              go_wp2
              go_roundw
              case rel => exact ⟨i + 1, false, _, rfl, by go_num, hB, hK, by omega, hbel, by omega, by omega, hd⟩
              case measure => simp [intOf]; omega
            · rw [decide_eq_false h10] at qb
              by_cases h13 : c = 13
              · have hd := s3 rfl h92 (.inr h13)
                rw [decide_eq_true h13] at qc
                clear s1 s2 s3 s4 hrel h92 h10 h13
                go_wp2
                go_roundw
                case rel => exact ⟨i + 1, false, _, rfl, by go_num, hB, hK, by omega, hbel, by omega, by omega, hd⟩
                case measure => simp [intOf]; omega
              · have hd := s4 rfl h92 h10 h13
                rw [decide_eq_false h13] at qc
                clear s1 s2 s3 s4 hrel h92 h10 h13
                go_wp2_with (go_at_call 81; (with_reducible refine (wbR w.heap.size _ _ _ _ _ hB ?_ ?_ ?_ ?_).mono ?_); (omega); (omega); (omega); (omega); rintro e w' ⟨rfl, hB2, hb2, hk2⟩)
                go_roundw
                case rel => exact ⟨i + 1, false, _, rfl, by go_num, hB2, hK.trans hk2, by have := hb2.size; omega, hbel.trans hb2, by omega, by simp; omega, hd⟩
                case measure => simp [intOf]; omega
      · have he := Lib.hid (ue_end hrel hlt)
        have hS := bstr w.heap.size (w.heap.size + 1) acc wr (hB.bld (by omega) (by omega)) hbel.size
        clear hrel
        go_wp2_with (go_at_call 71; refine hS.mono ?_; rintro e w' ⟨rfl, -, hb3, -⟩)
        go_ret
        exact ⟨congrArg (fun l : List UInt8 => Ending.returned (.string ⟨l.toArray⟩)) he.out, hbel.trans hb3⟩
  · go_enter Tryz.func82, Tryz.ntmps82
    go_wp2
    go_loopw [5, 32] (fun bv iv wr => ∃ (i : Nat) (b : Bool) (acc : List UInt8), bv = .bool b ∧ iv = .int .i64 i ∧ BldR wr (w.heap.size + 2 + 1) (w.heap.size + 1) acc ∧ KeptUnder (w.heap.size + 2 + 1) (w.heap.size + 1) w2 wr ∧ w.heap.size + 2 < wr.heap.size ∧ Below w.heap.size w wr ∧ i ≤ P.size ∧ acc.length ≤ i ∧ Hid (acc ++ ue b (tl P i) = X)) (fun _ iv _ => P.size - (intOf iv).toNat)
    case atStart => exact ⟨0, false, [], rfl, by first | rfl | trivial, hR2, KeptUnder.refl _ _ _, hz2, hbel2, by omega, by simp, hst0⟩
    case round =>
      clear hst0 hR2 hbel2 hcv hE hti z1 z2
      obtain ⟨i, b, acc, rfl, rfl, hB, hK, hgz, hbel, hi, hal, hrel⟩ := hrel
      have hP : P.size ≤ 100000000 := by have := HPS.out; omega
      by_cases hlt : i < P.size
      · obtain ⟨s1, s2, s3, s4⟩ := ue_step hrel hlt
        have hck : wr.cell? ⟨w.heap.size + 2, i, none⟩ = some (.int .u8 P[i].toNat) := (hK.cell (by omega) (by omega) i).trans (HCE.out i hlt)
        have qa : ((P[i].toNat : Int) == 92) = decide (P[i] = 92) := u8k 92 (by decide)
        have qb : ((P[i].toNat : Int) != 10) = !decide (P[i] = 10) := by unfold bne; rw [show ((P[i].toNat : Int) == 10) = decide (P[i] = 10) from u8k 10 (by decide)]
        have qc : ((P[i].toNat : Int) != 13) = !decide (P[i] = 13) := by unfold bne; rw [show ((P[i].toNat : Int) == 13) = decide (P[i] = 13) from u8k 13 (by decide)]
        generalize P[i] = c at s1 s2 s3 s4 hck qa qb qc
        cases b with
        | true =>
          have hd := s1 rfl
          clear s1 s2 s3 s4 hrel qa qb qc
          go_wp2_with (go_at_call 81; (with_reducible refine (wbR w.heap.size _ _ _ _ _ hB ?_ ?_ ?_ ?_).mono ?_); (omega); (omega); (omega); (omega); rintro e w' ⟨rfl, hB2, hb2, hk2⟩)
          go_roundw
          case rel => exact ⟨i + 1, false, _, rfl, by go_num, hB2, hK.trans hk2, by have := hb2.size; omega, hbel.trans hb2, by omega, by simp; omega, hd⟩
          case measure => simp [intOf]; omega
        | false =>
          by_cases h92 : c = 92
          · have hd := s2 rfl h92
            rw [decide_eq_true h92] at qa
            clear s1 s2 s3 s4 hrel qb qc h92
            go_wp2
            go_roundw
            case rel => exact ⟨i + 1, true, _, rfl, by go_num, hB, hK, by omega, hbel, by omega, by omega, hd⟩
            case measure => simp [intOf]; omega
          · rw [decide_eq_false h92] at qa
            by_cases h10 : c = 10
            · have hd := s3 rfl h92 (.inl h10)
              rw [decide_eq_true h10] at qb
              clear s1 s2 s3 s4 hrel qc h92 h10
              go_wp2
              go_roundw
              case rel => exact ⟨i + 1, false, _, rfl, by go_num, hB, hK, by omega, hbel, by omega, by omega, hd⟩
              case measure => simp [intOf]; omega
            · rw [decide_eq_false h10] at qb
              by_cases h13 : c = 13
              · have hd := s3 rfl h92 (.inr h13)
                rw [decide_eq_true h13] at qc
                clear s1 s2 s3 s4 hrel h92 h10 h13
                go_wp2
                go_roundw
                case rel => exact ⟨i + 1, false, _, rfl, by go_num, hB, hK, by omega, hbel, by omega, by omega, hd⟩
                case measure => simp [intOf]; omega
              · have hd := s4 rfl h92 h10 h13
                rw [decide_eq_false h13] at qc
                clear s1 s2 s3 s4 hrel h92 h10 h13
                go_wp2_with (go_at_call 81; (with_reducible refine (wbR w.heap.size _ _ _ _ _ hB ?_ ?_ ?_ ?_).mono ?_); (omega); (omega); (omega); (omega); rintro e w' ⟨rfl, hB2, hb2, hk2⟩)
                go_roundw
                case rel => exact ⟨i + 1, false, _, rfl, by go_num, hB2, hK.trans hk2, by have := hb2.size; omega, hbel.trans hb2, by omega, by simp; omega, hd⟩
                case measure => simp [intOf]; omega
      · have he := Lib.hid (ue_end hrel hlt)
        have hS := bstr w.heap.size (w.heap.size + 1) acc wr (hB.bld (by omega) (by omega)) hbel.size
        clear hrel
        go_wp2_with (go_at_call 71; refine hS.mono ?_; rintro e w' ⟨rfl, -, hb3, -⟩)
        go_ret
        exact ⟨congrArg (fun l : List UInt8 => Ending.returned (.string ⟨l.toArray⟩)) he.out, hbel.trans hb3⟩
theorem value_any (k : Int) (T : ByteArray) (w : World) (hs : T.size ≤ 100000000) : Calls Tryz.prog 82 #[.agg #[.int .i64 k, .string T]] w (StrIs (valI k T.data.toList) w) := by
  by_cases h : (k = 2 ∨ k = 3) ∧ 2 ≤ T.size
  · exact value_long k T w hs h.1 h.2
  · exact value_short k T w hs h
end Go.Proofs.YtilccofdphohiaaGreatDoor
