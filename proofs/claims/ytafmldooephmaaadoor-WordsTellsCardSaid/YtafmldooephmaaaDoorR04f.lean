/- Walks of the reference pouchref04: Runes, Repair. -/
import Derived.Test.YtafmldooephmaaaDoorR04e
namespace Go.Proofs.YtafmldooephmaaaDoor
open Go.RowKit Pk U8 Su Fo

theorem firstV_eq {l : List UInt8} (h : l ≠ []) : ∃ b, firstV l = (((dec l).1 : Int), ((dec l).2 : Int), b) := ⟨_, by unfold firstV; rw [if_neg h]⟩
theorem firstR_at (s : ByteArray) (p : Nat) (w : World) (hs : s.size ≤ 10000000) (hp : p < s.size) :
    Calls Tryd.prog 53 #[.string (s.extract p s.size)] w fun e w' => (∃ b, e = .returned (.tuple #[.int .i64 (dec (tl s p)).1, .int .i64 (dec (tl s p)).2, .bool b])) ∧ Below w.heap.size w w' := by
  have h1 := firstR_any (s.extract p s.size) w (by rw [extC_size s p (by omega)]; omega)
  rw [← tl_zero, extC_tl] at h1
  obtain ⟨b, hb⟩ := firstV_eq (tl_ne hp)
  rw [hb] at h1
  exact h1.mono fun e w' h => ⟨⟨b, h.1⟩, h.2⟩
set_option maxHeartbeats 1000000 in
set_option maxRecDepth 100000 in
theorem runesR_any (s : ByteArray) (w : World) (hs : s.size ≤ 10000000) : Calls Tryd.prog 29 #[.string s] w (RunesIs s.data.toList w) := by
  go_enter Tryd.func29, Tryd.ntmps29
  go_wp2
  go_loopw [3, 4] (fun lv i wr => ∃ (p : Nat) (acc : List Int), i = .int .i64 p ∧ ownsI wr w.heap.size 3 lv acc ∧ Below w.heap.size w wr ∧ p ≤ s.size ∧ acc.length ≤ p ∧ Hid (acc ++ runesZ (tl s p) = runesZ (tl s 0))) (fun _ i _ => s.size - (intOf i).toNat)
  case atStart => exact ⟨0, [], by first | rfl | trivial, ownsI.nil _ _ _, Below.refl _ _, by omega, by simp, rfl⟩
  case round =>
    obtain ⟨p, acc, rfl, hown, hbel, hp, hal, hrel⟩ := hrel
    have hsz := hbel.size
    by_cases h0 : p < s.size
    · obtain ⟨wd1, wd2, wd3⟩ := width_le h0
      have hstep := walk_step (g := fun l => [((dec l).1 : Int)]) hrel h0
      have hnx := fun w => firstR_at s p w hs h0
      obtain ⟨R, hR⟩ : ∃ R, R = dec (tl s p) := ⟨_, rfl⟩
      rw [← hR] at hstep wd1 wd2 wd3 hnx
      obtain ⟨R1, R2⟩ := R
      simp only at hstep wd1 wd2 wd3 hnx
      have HN := Lib.hid hnx
      have HST := Lib.hid hstep
      clear hrel hstep hR hnx
      go_wp2_with (first
        | (go_at_call 53; (with_reducible refine (HN.out _).mono ?_); rintro e w1 ⟨⟨ok, rfl⟩, hb1⟩; have hown1 := ownsI_below hown hb1 (Nat.le_refl _); have hbel1 := hbel.trans (hb1.mono hsz); have hsz1 := hbel1.size)
        | (at_builtin; refine append_int _ rfl (.tmp 20) (.tmp 22) islC rfl w.heap.size _ _ rfl (hown1.alloc _) ⟨_, 0, none⟩ 1 1 [(R1 : Int)] rfl rfl (cells_new _ _ _) (by first | omega | (simp; done) | (simp; omega)) (by first | omega | (simp; done) | (simp; omega)) ?_; intro v2 w2 hown2 hg2; have hb2 := Below_grownI (hbel1.alloc hsz1 _) (hown1.alloc _) hg2 (by first | omega | (simp; done) | (simp; omega)); have hz2 := hb2.size; clear hg2))
      go_roundw
      case rel => exact ⟨p + R2, _, by go_num, hown2, hb2, by omega, by rw [List.length_append, List.length_singleton]; omega, HST.out⟩
      case measure => simp [intOf]; omega
    · have hfin := walk_end (g := fun l => [((dec l).1 : Int)]) hrel h0
      rw [tl_zero] at hfin
      have hpost : Hid (RunesIs s.data.toList w (.returned u3) wr) := ⟨u3, rfl, by rw [hfin] at hown; exact hown, hbel⟩
      clear hrel hfin hown
      go_wp2
      go_ret
      exact hpost.out
set_option maxHeartbeats 1000000 in
set_option maxRecDepth 100000 in
theorem repairR_any (s : ByteArray) (w : World) (hs : s.size ≤ 10000000) : Calls Tryd.prog 22 #[.string s] w fun e w' => e = .returned (.string ⟨(repairL s.data.toList).toArray⟩) ∧ Below w.heap.size w w' := by
  have hr := Lib.hid (runesR_any s w hs)
  have hlen : (runesZ s.data.toList).length ≤ 10000000 := by
    have := runesZ_length s.data.toList
    have h2 : s.data.toList.length = s.size := rfl
    omega
  have HM := Lib.hid (runesZ_mem s.data.toList)
  have HE := Lib.hid (encsZ_runes s.data.toList)
  unfold RunesIs at hr
  obtain ⟨ns, hns⟩ : ∃ ns, ns = runesZ s.data.toList := ⟨_, rfl⟩
  rw [← hns] at hr hlen HM HE
  clear hns
  go_enter Tryd.func22, Tryd.ntmps22
  go_wp2_with (go_at_call 29; (with_reducible refine hr.out.mono ?_); rintro e w1 ⟨v, rfl, hown1, hb1⟩; have z1 := hb1.size)
  rcases hown1.form with ⟨rfl, rfl⟩ | ⟨g, cap, rfl, hBg, hlc, hcm, hcells⟩
  · clear hown1
    go_wp2
    go_loopw [3, 5] (fun ov i wr => i = .int .i64 0 ∧ wr = w1 ∧ ownsB wr w.heap.size 5 ov []) (fun _ _ _ => 0)
    case atStart => exact ⟨rfl, rfl, ownsB.nil _ _ _⟩
    case round =>
      obtain ⟨rfl, rfl, hown⟩ := hrel
      have hcv := run_string_owned (P := Tryd.prog) (ts := 9) bsl04 Tryd.underlying9 hown
      go_wp2
      go_ret
      rw [← HE.out]
      exact ⟨rfl, hb1⟩
  · have HC := Lib.hid hcells
    have hgl := fun h0 : 0 < ns.length => World.block_lt_of_cell? _ _ (hcells 0 h0)
    have HG := Lib.hid hgl
    clear hcells hown1 hgl
    have bw : Below w1.heap.size w1 w1 := Below.refl _ _
    go_wp2
    go_loopw [3, 5] (fun ov i wr => ∃ (k : Nat) (acc : List UInt8), i = .int .i64 k ∧ ownsB wr w1.heap.size 5 ov acc ∧ Below w1.heap.size w1 wr ∧ k ≤ ns.length ∧ acc.length ≤ 4 * k ∧ Hid (acc ++ encsZ (ns.drop k) = encsZ (ns.drop 0))) (fun _ i _ => ns.length - (intOf i).toNat)
    case atStart => exact ⟨0, [], by first | rfl | trivial, ownsB.nil _ _ _, bw, by omega, by simp, rfl⟩
    case round =>
      obtain ⟨k, acc, rfl, hown, hbel, hk, hal, hrel⟩ := hrel
      have hsz := hbel.size
      by_cases hlt : k < ns.length
      · have hc := cell_later hbel (HC.out k hlt)
        obtain ⟨m, hm, hsm⟩ := HM.out ns[k] (List.getElem_mem _)
        have hstep := encsZ_step hrel hlt
        rw [hm] at hc hstep
        have hel := enc_len m
        have hL := fun w => laid_any m w hsm
        unfold Laid at hL
        obtain ⟨L, hL0⟩ : ∃ L, L = Lib.encodeRune (m : Int) := ⟨_, rfl⟩
        rw [← hL0] at hL hel hstep
        have HL := Lib.hid hL
        have HST := Lib.hid hstep
        have hel2 := hel.2
        clear hL hL0 hstep hrel hm hsm hel
        go_wp2_with (first
          | (go_at_call 46; (with_reducible refine (HL.out _).mono ?_); rintro e w3 ⟨rfl, rfl⟩)
          | (at_builtin; refine append_bytes _ rfl (.tmp 14) (.tmp 19) bsl04 rfl w1.heap.size _ _ rfl (hown.alloc _) ⟨_, 0, none⟩ L.length L.length L rfl rfl (cells_new _ _ _) (by omega) (by simp; omega) ?_; intro v2 w2 hown2 hg2; have hb2 := Below_grown (hbel.alloc hsz _) (hown.alloc _) hg2 (by simp; omega); have hz2 := hb2.size; clear hg2))
        go_roundw
        case rel => exact ⟨k + 1, _, by go_num, hown2, hb2, by omega, by rw [List.length_append]; omega, HST.out⟩
        case measure => simp [intOf]; omega
      · have hfin := encsZ_end hrel hlt
        rw [List.drop_zero, HE.out] at hfin
        have HF := Lib.hid hfin
        have hcv := run_string_owned (P := Tryd.prog) (ts := 9) bsl04 Tryd.underlying9 hown
        clear hrel hfin
        go_wp2
        go_ret
        rw [← HF.out]
        exact ⟨rfl, hb1.trans (hbel.mono z1)⟩
end Go.Proofs.YtafmldooephmaaaDoor
