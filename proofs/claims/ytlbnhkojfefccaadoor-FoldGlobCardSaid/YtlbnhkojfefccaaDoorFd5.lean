/- Walks: fold.parse. -/
import Derived.Test.YtlbnhkojfefccaaDoorFd3
import Derived.Test.YtlbnhkojfefccaaDoorKitE
namespace Go.Proofs.YtlbnhkojfefccaaDoor
open Go.RowKit Pk U8 Su Fo

theorem elF : ElSl Tryd.prog 59 62 where
  ht := Tryd.underlying59
  hi := info_parts (show (Tryd.prog.info? 62).map (fun i => (i.zero, i.size, i.bytes)) = some (some (.agg #[.int .i64 0, .string ⟨#[]⟩]), 2, 24) by kernel_rfl)
theorem parse_end {us : List ByteArray} {i : Nat} {acc X : List El} (h : Hid (acc ++ parseL (us.drop i) = X)) (hi : ¬ i < us.length) : acc = X := by
  have e := h.out
  rw [List.drop_eq_nil_of_le (by omega)] at e
  simpa [parseL] using e
theorem parse_step {us : List ByteArray} {i : Nat} {acc X : List El} (h : Hid (acc ++ parseL (us.drop i) = X)) (hi : i < us.length) :
    ((us[i].toList == [42]) = true → Hid (acc ++ [⟨2, ⟨#[]⟩⟩] ++ parseL (us.drop (i + 1)) = X)) ∧
    ((us[i].toList == [42]) = false → (us[i].toList == [63]) = true → Hid (acc ++ [⟨1, ⟨#[]⟩⟩] ++ parseL (us.drop (i + 1)) = X)) ∧
    ((us[i].toList == [42]) = false → (us[i].toList == [63]) = false → (us[i].toList == [92]) = true → (hj : i + 1 < us.length) → Hid (acc ++ [⟨0, us[i + 1]⟩] ++ parseL (us.drop (i + 1 + 1)) = X)) ∧
    ((us[i].toList == [42]) = false → (us[i].toList == [63]) = false → ((us[i].toList == [92]) = false ∨ ¬ i + 1 < us.length) → Hid (acc ++ [⟨0, us[i]⟩] ++ parseL (us.drop (i + 1)) = X)) := by
  have e := h.out
  rw [List.drop_eq_getElem_cons hi] at e
  simp only [beq_iff_eq, beq_eq_false_iff_ne, ne_eq]
  by_cases hj : i + 1 < us.length
  · rw [List.drop_eq_getElem_cons hj] at e
    unfold parseL at e
    rw [← List.drop_eq_getElem_cons hj] at e
    refine ⟨fun h1 => ?_, fun h1 h2 => ?_, fun h1 h2 h3 _ => ?_, fun h1 h2 h3 => ?_⟩
    · rw [if_pos h1] at e; show _ = _; rw [← e]; simp
    · rw [if_neg h1, if_pos h2] at e; show _ = _; rw [← e]; simp
    · rw [if_neg h1, if_neg h2, if_pos h3] at e; show _ = _; rw [← e]; simp
    · rw [if_neg h1, if_neg h2, if_neg (by rcases h3 with h3 | h3; exact h3; exact absurd hj h3)] at e; show _ = _; rw [← e]; simp
  · rw [List.drop_eq_nil_of_le (show us.length ≤ i + 1 by omega)] at e ⊢
    unfold parseL at e
    refine ⟨fun h1 => ?_, fun h1 h2 => ?_, fun h1 h2 h3 h4 => absurd h4 hj, fun h1 h2 _ => ?_⟩
    · rw [if_pos h1] at e; show _ = _; rw [← e]; simp [parseL]
    · rw [if_neg h1, if_pos h2] at e; show _ = _; rw [← e]; simp [parseL]
    · rw [if_neg h1, if_neg h2] at e; show _ = _; rw [← e]; simp [parseL]
def ParseIs (m : List El) (w : World) (e : Ending) (w' : World) : Prop := ∃ v, e = .returned v ∧ ownsE w' w.heap.size 62 v m ∧ Below w.heap.size w w'
set_option maxHeartbeats 4000000 in
set_option maxRecDepth 100000 in
theorem parse_any (s : ByteArray) (w : World) (hs : s.size ≤ 1000000) : Calls Tryd.prog 38 #[.string s] w (ParseIs (parseL (unitsB s.data.toList)) w) := by
  have hU := unitsP_any s w (by omega)
  have hlen := units_length s.data.toList
  have hsl : s.data.toList.length = s.size := rfl
  unfold UnitsP at hU
  generalize unitsB s.data.toList = us at hU hlen ⊢
  have HU := Lib.hid hU
  have hul : us.length ≤ 1000000 := by omega
  clear hU hlen hsl
  go_enter Tryd.func38, Tryd.ntmps38
  go_wp2_with (go_at_call 10; (with_reducible refine HU.out.mono ?_); rintro e w1 ⟨v, rfl, hown, hb1⟩; rcases hown.form with ⟨rfl, rfl⟩ | ⟨g, cap, rfl, hBg, hlc, hcm, hcells⟩)
  · go_wp2
    go_loopw [3, 5] (fun ov iv wr => ov = .slice none 0 0 ∧ iv = .int .i64 0 ∧ wr = w1) (fun _ iv _ => 0)
    case atStart => exact ⟨rfl, by first | rfl | trivial, rfl⟩
    case round =>
      obtain ⟨rfl, rfl, rfl⟩ := hrel
      have hpost : Hid (ParseIs (parseL []) w (.returned (.slice none 0 0)) wr) := ⟨_, rfl, ownsE.nil _ _ _, hb1⟩
      clear hown
      go_wp2
      go_ret
      exact hpost.out
  · have HC := Lib.hid hcells
    have hz1 := hb1.size
    clear hown hcells hBg hlc hcm
    go_wp2
    go_loopw [3, 5] (fun ov iv wr => ∃ (i : Nat) (acc : List El), iv = .int .i64 i ∧ ownsE wr w1.heap.size 62 ov acc ∧ Below w1.heap.size w1 wr ∧ i ≤ us.length ∧ acc.length ≤ i ∧ Hid (acc ++ parseL (us.drop i) = parseL (us.drop 0))) (fun _ iv _ => us.length - (intOf iv).toNat)
    case atStart => exact ⟨0, [], by first | rfl | trivial, ownsE.nil _ _ _, Below.refl _ _, by omega, by simp, rfl⟩
    case round =>
      obtain ⟨i, acc, rfl, hown, hbel, hi, hal, hrel⟩ := hrel
      have hsz := hbel.size
      by_cases hlt : i < us.length
      · obtain ⟨s1, s2, s3, s4⟩ := parse_step hrel hlt
        have hc := cell_later hbel (HC.out i hlt)
        cases h42 : (us[i].toList == [42]) with
        | true =>
          have hd := s1 h42
          clear s1 s2 s3 s4 hrel
          generalize us[i] = u at hc h42
          go_wp2_with (at_builtin; refine append_el _ rfl (.tmp 28) (.tmp 30) elF rfl w1.heap.size _ _ rfl (ownsE.alloc hown _) ⟨_, 0, none⟩ ⟨2, ⟨#[]⟩⟩ 1 rfl (cells_new _ _ _) (by first | omega | (simp; done) | (simp; omega)) (by first | omega | (simp; done) | (simp; omega)) ?_; intro v6 w6 hown6 hg6; have hb6 := Below_grownE (Below.alloc hbel hsz _) (ownsE.alloc hown _) hg6 (by first | omega | (simp; done) | (simp; omega)); clear hg6)
          go_roundw
          case rel => exact ⟨i + 1, _, by go_num, hown6, hb6, by omega, by rw [List.length_append, List.length_singleton]; omega, hd⟩
          case measure => simp [intOf]; omega
        | false =>
          cases h63 : (us[i].toList == [63]) with
          | true =>
            have hd := s2 h42 h63
            clear s1 s2 s3 s4 hrel
            generalize us[i] = u at hc h42 h63
            go_wp2_with (at_builtin; refine append_el _ rfl (.tmp 38) (.tmp 40) elF rfl w1.heap.size _ _ rfl (ownsE.alloc hown _) ⟨_, 0, none⟩ ⟨1, ⟨#[]⟩⟩ 1 rfl (cells_new _ _ _) (by first | omega | (simp; done) | (simp; omega)) (by first | omega | (simp; done) | (simp; omega)) ?_; intro v6 w6 hown6 hg6; have hb6 := Below_grownE (Below.alloc hbel hsz _) (ownsE.alloc hown _) hg6 (by first | omega | (simp; done) | (simp; omega)); clear hg6)
            go_roundw
            case rel => exact ⟨i + 1, _, by go_num, hown6, hb6, by omega, by rw [List.length_append, List.length_singleton]; omega, hd⟩
            case measure => simp [intOf]; omega
          | false =>
            cases h92 : (us[i].toList == [92]) with
            | true =>
              by_cases hj : i + 1 < us.length
              · have hd := s3 h42 h63 h92 hj
                have hc2 := cell_later hbel (HC.out (i + 1) hj)
                clear s1 s2 s3 s4 hrel
                generalize us[i] = u at hc h42 h63 h92
                generalize us[i + 1] = u2 at hc2 hd
                go_wp2_with (at_builtin; refine append_el _ rfl (.tmp 57) (.tmp 63) elF rfl w1.heap.size _ _ rfl (ownsE.alloc hown _) ⟨_, 0, none⟩ ⟨0, u2⟩ 1 rfl (cells_new _ _ _) (by first | omega | (simp; done) | (simp; omega)) (by first | omega | (simp; done) | (simp; omega)) ?_; intro v6 w6 hown6 hg6; have hb6 := Below_grownE (Below.alloc hbel hsz _) (ownsE.alloc hown _) hg6 (by first | omega | (simp; done) | (simp; omega)); clear hg6)
                go_roundw
                case rel => exact ⟨i + 1 + 1, _, by go_num, hown6, hb6, by omega, by rw [List.length_append, List.length_singleton]; omega, hd⟩
                case measure => simp [intOf]; omega
              · have hd := s4 h42 h63 (.inr hj)
                clear s1 s2 s3 s4 hrel
                generalize us[i] = u at hc h42 h63 h92 hd
                go_wp2_with (at_builtin; refine append_el _ rfl (.tmp 14) (.tmp 20) elF rfl w1.heap.size _ _ rfl (ownsE.alloc hown _) ⟨_, 0, none⟩ ⟨0, u⟩ 1 rfl (cells_new _ _ _) (by first | omega | (simp; done) | (simp; omega)) (by first | omega | (simp; done) | (simp; omega)) ?_; intro v6 w6 hown6 hg6; have hb6 := Below_grownE (Below.alloc hbel hsz _) (ownsE.alloc hown _) hg6 (by first | omega | (simp; done) | (simp; omega)); clear hg6)
                go_roundw
                case rel => exact ⟨i + 1, _, by go_num, hown6, hb6, by omega, by rw [List.length_append, List.length_singleton]; omega, hd⟩
                case measure => simp [intOf]; omega
            | false =>
              have hd := s4 h42 h63 (.inl h92)
              clear s1 s2 s3 s4 hrel
              generalize us[i] = u at hc h42 h63 h92 hd
              go_wp2_with (at_builtin; refine append_el _ rfl (.tmp 14) (.tmp 20) elF rfl w1.heap.size _ _ rfl (ownsE.alloc hown _) ⟨_, 0, none⟩ ⟨0, u⟩ 1 rfl (cells_new _ _ _) (by first | omega | (simp; done) | (simp; omega)) (by first | omega | (simp; done) | (simp; omega)) ?_; intro v6 w6 hown6 hg6; have hb6 := Below_grownE (Below.alloc hbel hsz _) (ownsE.alloc hown _) hg6 (by first | omega | (simp; done) | (simp; omega)); clear hg6)
              go_roundw
              case rel => exact ⟨i + 1, _, by go_num, hown6, hb6, by omega, by rw [List.length_append, List.length_singleton]; omega, hd⟩
              case measure => simp [intOf]; omega
      · have hfin := parse_end hrel hlt
        have hpost : Hid (ParseIs (parseL us) w (.returned u3) wr) := ⟨u3, rfl, by
          rw [List.drop_zero] at hfin
          rw [hfin] at hown
          exact ownsE.base hown hz1, hb1.trans (hbel.mono hz1)⟩
        clear hrel hfin hown
        go_wp2
        go_ret
        exact hpost.out
end Go.Proofs.YtlbnhkojfefccaaDoor
