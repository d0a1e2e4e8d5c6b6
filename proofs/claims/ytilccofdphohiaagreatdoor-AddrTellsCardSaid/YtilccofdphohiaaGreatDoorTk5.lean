/- Walks: token: Bare. -/
import Derived.Test.YtilccofdphohiaaGreatDoorTk4
namespace Go.Proofs.YtilccofdphohiaaGreatDoor
open Go.RowKit Pk Tk Su Fo

theorem joinE_step {m : List El} {i : Nat} {acc X : List UInt8} (h : Hid (acc ++ joinE (m.drop i) = X)) (hi : i < m.length) : Hid (acc ++ m[i].text.data.toList ++ joinE (m.drop (i + 1)) = X) := by
  have e := h.out
  rw [List.drop_eq_getElem_cons hi] at e
  show _ = _
  rw [← e]
  unfold joinE
  rw [List.flatMap_cons, List.append_assoc]
theorem joinE_end {m : List El} {i : Nat} {acc X : List UInt8} (h : Hid (acc ++ joinE (m.drop i) = X)) (hi : ¬ i < m.length) : acc = X := by
  have e := h.out
  rw [List.drop_eq_nil_of_le (by omega)] at e
  simpa [joinE] using e
theorem joinE_len {m : List El} {i : Nat} {acc X : List UInt8} (h : Hid (acc ++ joinE (m.drop i) = X)) (hi : i < m.length) : acc.length + m[i].text.size ≤ X.length := by
  have e := (joinE_step h hi).out
  rw [← e, List.length_append, List.length_append, dataL]
  omega
theorem bareE_step {m : List El} {i : Nat} {acc X : List El} (h : Hid (acc ++ bareE (m.drop i) = X)) (hi : i < m.length) :
    (m[i].kind = 6 ∨ m[i].kind = 3 → Hid (acc ++ bareE (m.drop (i + 1)) = X)) ∧ (m[i].kind ≠ 6 → m[i].kind ≠ 3 → Hid (acc ++ [⟨m[i].kind, m[i].text⟩] ++ bareE (m.drop (i + 1)) = X)) := by
  have e := h.out
  rw [List.drop_eq_getElem_cons hi, bareE_cons] at e
  refine ⟨fun h1 => ?_, fun h1 h2 => ?_⟩
  · rw [if_neg (by rcases h1 with h1 | h1 <;> rw [h1] <;> simp)] at e; exact e
  · rw [if_pos (by simp [h1, h2])] at e
    show _ = _
    rw [← e]; simp
theorem bareE_end {m : List El} {i : Nat} {acc X : List El} (h : Hid (acc ++ bareE (m.drop i) = X)) (hi : ¬ i < m.length) : acc = X := by
  have e := h.out
  rw [List.drop_eq_nil_of_le (by omega)] at e
  simpa [bareE] using e
def StrIs (l : List UInt8) (w : World) (e : Ending) (w' : World) : Prop := e = .returned (.string ⟨l.toArray⟩) ∧ Below w.heap.size w w'
set_option maxHeartbeats 4000000 in
set_option maxRecDepth 100000 in
theorem bare_any (v : Value) (m : List El) (w : World) (hM : seesE w w.heap.size 43 v m) (hm : m.length ≤ 10000000) : Calls Tryz.prog 25 #[v] w (ToksIs (bareE m) w) := by
  obtain ⟨p, c, rfl, hc, hM⟩ := hM.form
  rcases hM with rfl | ⟨g, rfl, hg, hM⟩
  · go_enter Tryz.func25, Tryz.ntmps25
    go_wp2
    go_loopw [2, 7] (fun ov iv wr => ov = .slice none 0 0 ∧ iv = .int .i64 0 ∧ wr = w) (fun ov iv _ => 0)
    case atStart => exact ⟨rfl, by first | rfl | trivial, rfl⟩
    case round =>
      obtain ⟨rfl, rfl, rfl⟩ := hrel
      go_wp2
      go_ret
      exact ⟨_, rfl, ownsE.nil _ _ _, Below.refl _ _⟩
  · have HM := Lib.hid hM
    have hz : Hid ([] ++ bareE (m.drop 0) = bareE m) := rfl
    generalize bareE m = X at hz ⊢
    clear hM
    go_enter Tryz.func25, Tryz.ntmps25
    go_wp2
    go_loopw [2, 7] (fun ov iv wr => ∃ (i : Nat) (acc : List El), iv = .int .i64 i ∧ ownsE wr w.heap.size 43 ov acc ∧ Below w.heap.size w wr ∧ i ≤ m.length ∧ acc.length ≤ i ∧ Hid (acc ++ bareE (m.drop i) = X)) (fun _ iv _ => m.length - (intOf iv).toNat)
    case atStart => exact ⟨0, [], by first | rfl | trivial, ownsE.nil _ _ _, Below.refl _ _, by omega, by simp, hz⟩
    case round =>
      clear hz
      obtain ⟨i, acc, rfl, hown, hbel, hi, hal, hrel⟩ := hrel
      have hsz := hbel.size
      by_cases hlt : i < m.length
      · obtain ⟨s1, s2⟩ := bareE_step hrel hlt
        obtain ⟨c0, c1⟩ := HM.out i hlt
        have c0 := cell_later hbel c0
        have c1 := cell_later hbel c1
        have hown2 := ownsE.alloc hown (.cells #[.int .i64 m[i].kind, .string m[i].text] 43)
        have tb : Below w.heap.size w (wr.alloc (.cells #[.int .i64 m[i].kind, .string m[i].text] 43)) := hbel.alloc hsz _
        have hz2 : w.heap.size ≤ (wr.alloc (.cells #[.int .i64 m[i].kind, .string m[i].text] 43)).heap.size := Nat.le_trans hsz (heap_size_alloc_le _ _)
        clear hrel
        by_cases h6 : m[i].kind = 6
        · have hd := s1 (.inl h6)
          have q6 : ((m[i].kind : Int) == 6) = true := beq_iff_eq.2 (by omega)
          clear s1 s2 h6
          go_wp2
          go_roundw
          case rel => exact ⟨i + 1, _, by go_num, hown2, tb, by omega, by omega, hd⟩
          case measure => simp [intOf]; omega
        · have q6 : ((m[i].kind : Int) == 6) = false := beq_eq_false_iff_ne.2 (by omega)
          by_cases h3 : m[i].kind = 3
          · have hd := s1 (.inr h3)
            have q3 : ((m[i].kind : Int) == 3) = true := beq_iff_eq.2 (by omega)
            clear s1 s2 h6 h3
            go_wp2
            go_roundw
            case rel => exact ⟨i + 1, _, by go_num, hown2, tb, by omega, by omega, hd⟩
            case measure => simp [intOf]; omega
          · have hd := s2 h6 h3
            have q3 : ((m[i].kind : Int) == 3) = false := beq_eq_false_iff_ne.2 (by omega)
            clear s1 s2 h6 h3
            generalize m[i].kind = k at *
            generalize m[i].text = T at *
            go_wp2_with (at_builtin; go_loud (refine append_el _ rfl (.tmp 17) (.tmp 19) elT rfl w.heap.size _ _ rfl (ownsE.alloc hown2 _) ⟨_, 0, none⟩ ⟨k, T⟩ 1 rfl (cells_at _ _ (by simp) _ _) (by omega) (by simp; omega) ?_; intro v6 w6 hown6 hg6; have hb6 := Below_grownE (tb.alloc hz2 _) (ownsE.alloc hown2 _) hg6 (Nat.le_trans hz2 (heap_size_alloc_le _ _)); clear hg6))
            go_roundw
            case rel => exact ⟨i + 1, _, by go_num, hown6, hb6, by omega, by rw [List.length_append, List.length_singleton]; omega, hd⟩
            case measure => simp [intOf]; omega
      · have hX := bareE_end hrel hlt
        have hpost : Hid (ToksIs X w (.returned u2) wr) := ⟨_, rfl, by rw [← hX]; exact hown, hbel⟩
        clear hrel hX hown
        go_wp2
        go_ret
        exact hpost.out
end Go.Proofs.YtilccofdphohiaaGreatDoor
