/- Walks of the reference pouchref05: Marks. -/
import Derived.Test.YtlbnhkojfefccaaDoorR05d
import Derived.Test.YtlbnhkojfefccaaDoorFd8
namespace Go.Proofs.YtlbnhkojfefccaaDoor
open Go.RowKit Pk U8 Su Fo

theorem mkF5 : ElSl Tryd.prog 32 35 where
  ht := Tryd.underlying32
  hi := info_parts (show (Tryd.prog.info? 35).map (fun i => (i.zero, i.size, i.bytes)) = some (some (.agg #[.int .i64 0, .string ⟨#[]⟩]), 2, 24) by kernel_rfl)
def MarksIs (m : List El) (w : World) (e : Ending) (w' : World) : Prop := ∃ v, e = .returned v ∧ ownsE w' w.heap.size 35 v m ∧ Below w.heap.size w w'
set_option maxHeartbeats 4000000 in
set_option maxRecDepth 100000 in
theorem marks_any (s : ByteArray) (w : World) (hs : s.size ≤ 1000000) : Calls Tryd.prog 20 #[.string s] w (MarksIs (parseL (unitsB s.data.toList)) w) := by
  have hU := unitsR_any s w (by omega)
  have hlen := units_length s.data.toList
  have hsl : s.data.toList.length = s.size := rfl
  unfold UnitsIs at hU
  generalize unitsB s.data.toList = us at hU hlen ⊢
  have HU := Lib.hid hU
  have hul : us.length ≤ 1000000 := by omega
  clear hU hlen hsl
  go_enter Tryd.func20, Tryd.ntmps20
  go_wp2_with (go_at_call 11; (with_reducible refine HU.out.mono ?_); rintro e w1 ⟨v, rfl, hown, hb1⟩; rcases hown.form with ⟨rfl, rfl⟩ | ⟨g, cap, rfl, hBg, hlc, hcm, hcells⟩)
  · go_wp2
    go_loopw [4, 5] (fun ov iv wr => ov = .slice none 0 0 ∧ iv = .int .i64 0 ∧ wr = w1) (fun _ iv _ => 0)
    case atStart => exact ⟨rfl, by first | rfl | trivial, rfl⟩
    case round =>
      obtain ⟨rfl, rfl, rfl⟩ := hrel
      have hpost : Hid (MarksIs (parseL []) w (.returned (.slice none 0 0)) wr) := ⟨_, rfl, ownsE.nil _ _ _, hb1⟩
      clear hown
      go_wp2
      go_ret
      exact hpost.out
  · have HC := Lib.hid hcells
    have hz1 := hb1.size
    clear hown hcells hBg hlc hcm
    go_wp2
    go_loopw [4, 5] (fun ov iv wr => ∃ (i : Nat) (acc : List El), iv = .int .i64 i ∧ ownsE wr w1.heap.size 35 ov acc ∧ Below w1.heap.size w1 wr ∧ i ≤ us.length ∧ acc.length ≤ i ∧ Hid (acc ++ parseL (us.drop i) = parseL (us.drop 0))) (fun _ iv _ => us.length - (intOf iv).toNat)
    case atStart => exact ⟨0, [], by first | rfl | trivial, ownsE.nil _ _ _, Below.refl _ _, by omega, by simp, rfl⟩
    case round =>
      obtain ⟨i, acc, rfl, hown, hbel, hi, hal, hrel⟩ := hrel
      have hsz := hbel.size
      by_cases hlt : i < us.length
      · obtain ⟨s1, s2, s3, s4⟩ := parse_step hrel hlt
        have hc := cell_later hbel (HC.out i hlt)
        have hA := (Below.refl wr.heap.size wr).alloc (Nat.le_refl _) (.cells #[.int .i64 0, .string us[i]] 35)
        have hc2 := cell_later hA hc
        cases h42 : (us[i].toList == [42]) with
        | true =>
          have hd := s1 h42
          clear s1 s2 s3 s4 hrel
          generalize us[i] = u at hc hc2 h42
          go_wp2_with (at_builtin; refine append_el _ rfl (.tmp 51) (.tmp 53) mkF5 rfl w1.heap.size _ _ rfl (ownsE.alloc (ownsE.alloc hown _) _) ⟨_, 0, none⟩ ⟨2, ⟨#[]⟩⟩ 1 rfl (cells_new1 _ _ _ _) (by first | omega | (simp; done) | (simp; omega)) (by first | omega | (simp; done) | (simp; omega)) ?_; intro v6 w6 hown6 hg6; have hb6 := Below_grownE (Below.alloc (Below.alloc hbel hsz _) (by first | omega | (simp; done) | (simp; omega)) _) (ownsE.alloc (ownsE.alloc hown _) _) hg6 (by first | omega | (simp; done) | (simp; omega)); clear hg6)
          go_roundw
          case rel => exact ⟨i + 1, _, by go_num, hown6, hb6, by omega, by rw [List.length_append, List.length_singleton]; omega, hd⟩
          case measure => simp [intOf]; omega
        | false =>
          cases h63 : (us[i].toList == [63]) with
          | true =>
            have hd := s2 h42 h63
            clear s1 s2 s3 s4 hrel
            generalize us[i] = u at hc hc2 h42 h63
            go_wp2_with (at_builtin; refine append_el _ rfl (.tmp 51) (.tmp 53) mkF5 rfl w1.heap.size _ _ rfl (ownsE.alloc (ownsE.alloc hown _) _) ⟨_, 0, none⟩ ⟨1, ⟨#[]⟩⟩ 1 rfl (cells_new1 _ _ _ _) (by first | omega | (simp; done) | (simp; omega)) (by first | omega | (simp; done) | (simp; omega)) ?_; intro v6 w6 hown6 hg6; have hb6 := Below_grownE (Below.alloc (Below.alloc hbel hsz _) (by first | omega | (simp; done) | (simp; omega)) _) (ownsE.alloc (ownsE.alloc hown _) _) hg6 (by first | omega | (simp; done) | (simp; omega)); clear hg6)
            go_roundw
            case rel => exact ⟨i + 1, _, by go_num, hown6, hb6, by omega, by rw [List.length_append, List.length_singleton]; omega, hd⟩
            case measure => simp [intOf]; omega
          | false =>
            cases h92 : (us[i].toList == [92]) with
            | true =>
              by_cases hj : i + 1 < us.length
              · have hd := s3 h42 h63 h92 hj
                have hc3 := cell_later hA (cell_later hbel (HC.out (i + 1) hj))
                clear s1 s2 s3 s4 hrel
                generalize us[i] = u at hc hc2 h42 h63 h92 hc3
                generalize us[i + 1] = u2 at hc3 hd
                go_wp2_with (at_builtin; refine append_el _ rfl (.tmp 51) (.tmp 53) mkF5 rfl w1.heap.size _ _ rfl (ownsE.alloc (ownsE.alloc hown _) _) ⟨_, 0, none⟩ ⟨0, u2⟩ 1 rfl (cells_new1 _ _ _ _) (by first | omega | (simp; done) | (simp; omega)) (by first | omega | (simp; done) | (simp; omega)) ?_; intro v6 w6 hown6 hg6; have hb6 := Below_grownE (Below.alloc (Below.alloc hbel hsz _) (by first | omega | (simp; done) | (simp; omega)) _) (ownsE.alloc (ownsE.alloc hown _) _) hg6 (by first | omega | (simp; done) | (simp; omega)); clear hg6)
                go_roundw
                case rel => exact ⟨i + 1 + 1, _, by go_num, hown6, hb6, by omega, by rw [List.length_append, List.length_singleton]; omega, hd⟩
                case measure => simp [intOf]; omega
              · have hd := s4 h42 h63 (.inr hj)
                clear s1 s2 s3 s4 hrel
                generalize us[i] = u at hc hc2 h42 h63 h92 hd
                go_wp2_with (at_builtin; refine append_el _ rfl (.tmp 51) (.tmp 53) mkF5 rfl w1.heap.size _ _ rfl (ownsE.alloc (ownsE.alloc hown _) _) ⟨_, 0, none⟩ ⟨0, u⟩ 1 rfl (cells_new1 _ _ _ _) (by first | omega | (simp; done) | (simp; omega)) (by first | omega | (simp; done) | (simp; omega)) ?_; intro v6 w6 hown6 hg6; have hb6 := Below_grownE (Below.alloc (Below.alloc hbel hsz _) (by first | omega | (simp; done) | (simp; omega)) _) (ownsE.alloc (ownsE.alloc hown _) _) hg6 (by first | omega | (simp; done) | (simp; omega)); clear hg6)
                go_roundw
                case rel => exact ⟨i + 1, _, by go_num, hown6, hb6, by omega, by rw [List.length_append, List.length_singleton]; omega, hd⟩
                case measure => simp [intOf]; omega
            | false =>
              have hd := s4 h42 h63 (.inl h92)
              clear s1 s2 s3 s4 hrel
              generalize us[i] = u at hc hc2 h42 h63 h92 hd
              go_wp2_with (at_builtin; refine append_el _ rfl (.tmp 51) (.tmp 53) mkF5 rfl w1.heap.size _ _ rfl (ownsE.alloc (ownsE.alloc hown _) _) ⟨_, 0, none⟩ ⟨0, u⟩ 1 rfl (cells_new1 _ _ _ _) (by first | omega | (simp; done) | (simp; omega)) (by first | omega | (simp; done) | (simp; omega)) ?_; intro v6 w6 hown6 hg6; have hb6 := Below_grownE (Below.alloc (Below.alloc hbel hsz _) (by first | omega | (simp; done) | (simp; omega)) _) (ownsE.alloc (ownsE.alloc hown _) _) hg6 (by first | omega | (simp; done) | (simp; omega)); clear hg6)
              go_roundw
              case rel => exact ⟨i + 1, _, by go_num, hown6, hb6, by omega, by rw [List.length_append, List.length_singleton]; omega, hd⟩
              case measure => simp [intOf]; omega
      · have hfin := parse_end hrel hlt
        have hpost : Hid (MarksIs (parseL us) w (.returned u4) wr) := ⟨u4, rfl, by
          rw [List.drop_zero] at hfin
          rw [hfin] at hown
          exact ownsE.base hown hz1, hb1.trans (hbel.mono hz1)⟩
        clear hrel hfin hown
        go_wp2
        go_ret
        exact hpost.out
end Go.Proofs.YtlbnhkojfefccaaDoor
