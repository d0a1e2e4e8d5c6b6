/- Walks of the reference pouchref05: Units, Fold. -/
import Derived.Test.YtlbnhkojfefccaaDoorR05c
import Derived.Test.YtlbnhkojfefccaaDoorUnitP
namespace Go.Proofs.YtlbnhkojfefccaaDoor
open Go.RowKit Pk U8 Su Fo

theorem bsl5 : ByteSl Tryd.prog 40 5 where
  ht := Tryd.underlying40
  he := Tryd.underlying5
  hi := info_parts (show (Tryd.prog.info? 5).map (fun i => (i.zero, i.size, i.bytes)) = some (some (.int .u8 0), 1, 1) by kernel_rfl)
theorem ssl : StrSl Tryd.prog 24 9 where
  ht := Tryd.underlying24
  hi := info_parts (show (Tryd.prog.info? 9).map (fun i => (i.zero, i.size, i.bytes)) = some (some (.string ⟨#[]⟩), 1, 16) by kernel_rfl)
def UnitsIs (us : List ByteArray) (w : World) (e : Ending) (w' : World) : Prop := ∃ v, e = .returned v ∧ ownsS w' w.heap.size 9 v us ∧ Below w.heap.size w w'
set_option maxHeartbeats 1000000 in
set_option maxRecDepth 100000 in
theorem unitsR_any (s : ByteArray) (w : World) (hs : s.size ≤ 10000000) : Calls Tryd.prog 11 #[.string s] w (UnitsIs (unitsB s.data.toList) w) := by
  go_enter Tryd.func11, Tryd.ntmps11
  go_wp2
  go_loopw [3, 4] (fun lv i wr => ∃ (p : Nat) (acc : List ByteArray), i = .int .i64 p ∧ ownsS wr w.heap.size 9 lv acc ∧ Below w.heap.size w wr ∧ p ≤ s.size ∧ acc.length ≤ p ∧ Hid (acc ++ unitsB (tl s p) = unitsB (tl s 0))) (fun _ i _ => s.size - (intOf i).toNat)
  case atStart => exact ⟨0, [], by first | rfl | trivial, ownsS.nil _ _ _, Below.refl _ _, by omega, by simp, rfl⟩
  case round =>
    obtain ⟨p, acc, rfl, hown, hbel, hp, hal, hrel⟩ := hrel
    have hsz := hbel.size
    by_cases h0 : p < s.size
    · obtain ⟨wd1, wd2, wd3⟩ := width_le h0
      have hstep := walk_step (g := unitG) hrel h0
      rw [unitG_tl] at hstep
      have hL := fun w => lenR_any s p w hs h0
      obtain ⟨R, hR⟩ : ∃ R, R = (dec (tl s p)).2 := ⟨_, rfl⟩
      rw [← hR] at hstep wd1 wd2 wd3 hL
      have HL := Lib.hid hL
      have HST := Lib.hid hstep
      clear hrel hstep hR hL
      go_wp2_with (first
        | (go_at_call 22; (with_reducible refine (HL.out _).mono ?_); rintro e w1 ⟨rfl, rfl⟩)
        | (at_builtin; refine append_str _ rfl (.tmp 13) (.tmp 20) ssl rfl w.heap.size _ _ rfl (hown.alloc _) ⟨_, 0, none⟩ 1 1 [_] rfl rfl (cells_new _ _ _) (by first | omega | (simp; done) | (simp; omega)) (by first | omega | (simp; done) | (simp; omega)) ?_; intro v2 w2 hown2 hg2; have hb2 := Below_grownS (hbel.alloc hsz _) (hown.alloc _) hg2 (by first | omega | (simp; done) | (simp; omega)); have hz2 := hb2.size; clear hg2))
      go_roundw
      case rel => exact ⟨p + R, _, by go_num, hown2, hb2, by omega, by rw [List.length_append, List.length_singleton]; omega, HST.out⟩
      case measure => simp [intOf]; omega
    · have hfin := walk_end (g := unitG) hrel h0
      have hpost : Hid (UnitsIs (unitsB s.data.toList) w (.returned u3) wr) := ⟨u3, rfl, by rw [hfin, tl_zero] at hown; exact hown, hbel⟩
      clear hrel hfin hown
      go_wp2
      go_ret
      exact hpost.out
set_option maxHeartbeats 2000000 in
set_option maxRecDepth 100000 in
theorem foldR_any (s : ByteArray) (w : World) (hs : s.size ≤ 10000000) : Calls Tryd.prog 13 #[.string s] w fun e w' => e = .returned (.string ⟨(foldL s.data.toList).toArray⟩) ∧ Below w.heap.size w w' := by
  have hr := unitsR_any s w hs
  have hlen := units_length s.data.toList
  have HM := Lib.hid (units_mem _ s.data.toList (Nat.le_refl _))
  have HE := Lib.hid (foldU_units _ s.data.toList (Nat.le_refl _))
  have hXL := foldL_length s.data.toList
  have hl : s.data.toList.length = s.size := rfl
  unfold UnitsIs at hr
  obtain ⟨us, hus⟩ : ∃ us, us = unitsB s.data.toList := ⟨_, rfl⟩
  rw [← hus] at hr hlen HM HE
  obtain ⟨X, hX⟩ : ∃ X, X = foldL s.data.toList := ⟨_, rfl⟩
  rw [← hX] at HE hXL ⊢
  have hr := Lib.hid hr
  have hXL2 : X.length ≤ 10000000 := by omega
  have hlen2 : us.length ≤ 10000000 := by omega
  clear hus hX hXL hlen hl
  go_enter Tryd.func13, Tryd.ntmps13
  go_wp2_with (go_at_call 11; (with_reducible refine hr.out.mono ?_); rintro e w1 ⟨v, rfl, hown1, hb1⟩; have z1 := hb1.size)
  rcases hown1.form with ⟨rfl, rfl⟩ | ⟨g, cap, rfl, hBg, hlc, hcm, hcells⟩
  · clear hown1
    go_wp2
    go_loopw [4, 5] (fun ov i wr => i = .int .i64 0 ∧ wr = w1 ∧ ownsB wr w.heap.size 5 ov []) (fun _ _ _ => 0)
    case atStart => exact ⟨rfl, rfl, ownsB.nil _ _ _⟩
    case round =>
      obtain ⟨rfl, rfl, hown⟩ := hrel
      have hcv := run_string_owned (P := Tryd.prog) (ts := 9) bsl5 Tryd.underlying9 hown
      go_wp2
      go_ret
      rw [← HE.out]
      exact ⟨rfl, hb1⟩
  · have HC := Lib.hid hcells
    clear hcells hown1
    have bw : Below w1.heap.size w1 w1 := Below.refl _ _
    go_wp2
    go_loopw [4, 5] (fun ov i wr => ∃ (k : Nat) (acc : List UInt8), i = .int .i64 k ∧ ownsB wr w1.heap.size 5 ov acc ∧ Below w1.heap.size w1 wr ∧ k ≤ us.length ∧ Hid (acc ++ foldU (us.drop k) = X)) (fun _ i _ => us.length - (intOf i).toNat)
    case atStart => exact ⟨0, [], by first | rfl | trivial, ownsB.nil _ _ _, bw, by omega, by show _ = _; rw [List.drop_zero, ← HE.out]; rfl⟩
    case round =>
      obtain ⟨k, acc, rfl, hown, hbel, hk, hrel⟩ := hrel
      have hsz := hbel.size
      have hal : acc.length ≤ 10000000 := by
        have e := congrArg List.length hrel.out
        rw [List.length_append] at e; omega
      by_cases hlt : k < us.length
      · have hc := cell_later hbel (HC.out k hlt)
        have hu := HM.out us[k] (List.getElem_mem _)
        have hu0 := hu.pos
        have hstep := fun d => foldU_step (d := d) hrel hlt
        obtain ⟨u, hU⟩ : ∃ u, u = us[k] := ⟨_, rfl⟩
        rw [← hU] at hc hu hu0 hstep
        clear hrel hU
        by_cases h1 : u.size = 1
        · have hf := fold_one hu h1
          have bu := u[0].toNat_lt
          by_cases hc1 : u[0].toNat < 128
          · rw [if_pos hc1] at hf
            have HST := Lib.hid (hstep _ hf)
            have hlw := fun w => lowR_any u[0].toNat w (by omega)
            rw [← lowN_cast] at hlw
            have hl1 := (lowN_128 _).1 hc1
            have hb8 : b8 ((lowN u[0].toNat : Nat) : Int) = UInt8.ofNat (lowN u[0].toNat) := rfl
            rw [← hb8] at HST
            generalize lowN u[0].toNat = m at HST hlw hl1
            have HW := Lib.hid hlw
            clear hf hstep hlw hu hb8
            go_wp2_with (first
              | (go_at_call 28; (with_reducible refine (HW.out _).mono ?_); rintro e w3 ⟨rfl, rfl⟩)
              | (at_builtin; refine append_bytes _ rfl (.tmp 39) (.tmp 42) bsl5 rfl w1.heap.size _ _ rfl (hown.alloc _) ⟨_, 0, none⟩ 1 1 [b8 _] rfl rfl (cells_byte _ _ _ (by omega) (by omega)) (by first | omega | (simp; done) | (simp; omega)) (by first | omega | (simp; done) | (simp; omega)) ?_; intro v2 w2 hown2 hg2; have hb2 := Below_grown (hbel.alloc hsz _) (hown.alloc _) hg2 (by first | omega | (simp; done) | (simp; omega)); have hz2 := hb2.size; clear hg2))
            go_roundw
            case rel => exact ⟨k + 1, _, by go_num, hown2, hb2, by omega, HST.out⟩
            case measure => simp [intOf]; omega
          · rw [if_neg hc1] at hf
            have HST := Lib.hid (hstep _ hf)
            rw [show u[0] = b8 (u[0].toNat : Int) from (b8_of _).symm] at HST
            clear hf hstep hu
            go_wp2_with (at_builtin; refine append_bytes _ rfl (.tmp 39) (.tmp 42) bsl5 rfl w1.heap.size _ _ rfl (hown.alloc _) ⟨_, 0, none⟩ 1 1 [b8 _] rfl rfl (cells_byte _ _ _ (by omega) (by omega)) (by first | omega | (simp; done) | (simp; omega)) (by first | omega | (simp; done) | (simp; omega)) ?_; intro v2 w2 hown2 hg2; have hb2 := Below_grown (hbel.alloc hsz _) (hown.alloc _) hg2 (by first | omega | (simp; done) | (simp; omega)); have hz2 := hb2.size; clear hg2)
            go_roundw
            case rel => exact ⟨k + 1, _, by go_num, hown2, hb2, by omega, HST.out⟩
            case measure => simp [intOf]; omega
        · by_cases h2 : u.size = 2
          · have hR := fun w => runeR_2 u w h2
            obtain ⟨V, hV⟩ : ∃ V, V = runeF u.data.toList 32 1 := ⟨_, rfl⟩
            rw [← hV] at hR
            obtain ⟨v1, v2, v3, v4, hf⟩ := fold_two hu h2 V hV
            have HST := Lib.hid (hstep _ hf)
            have hlw := fun w => lowR_any V w (by omega)
            rw [← lowN_cast] at hlw
            generalize lowN V = m at HST hlw v3 v4
            have hb8 : [UInt8.ofNat (192 + m / 64), UInt8.ofNat (128 + m % 64)] = [b8 (192 + (m : Int) / 64), b8 (128 + (m : Int) % 64)] := by
              have e1 : (192 + (m : Int) / 64).toNat = 192 + m / 64 := by omega
              have e2 : (128 + (m : Int) % 64).toNat = 128 + m % 64 := by omega
              unfold b8; rw [e1, e2]
            rw [hb8] at HST
            have HW := Lib.hid hlw
            have HR := Lib.hid hR
            clear hf hstep hlw hu hb8 hV hR h1
            go_wp2_with (first
              | (go_at_call 29; (with_reducible refine (HR.out _).mono ?_); rintro e w3 ⟨rfl, rfl⟩)
              | (go_at_call 28; (with_reducible refine (HW.out _).mono ?_); rintro e w3 ⟨rfl, rfl⟩)
              | (at_builtin; refine append_bytes _ rfl (.tmp 52) (.tmp 61) bsl5 rfl w1.heap.size _ _ rfl (hown.alloc _) ⟨_, 0, none⟩ 2 2 [b8 _, b8 _] rfl rfl (cells_byte2 _ _ _ _ (by omega) (by omega) (by omega) (by omega)) (by first | omega | (simp; done) | (simp; omega)) (by first | omega | (simp; done) | (simp; omega)) ?_; intro v2 w2 hown2 hg2; have hb2 := Below_grown (hbel.alloc hsz _) (hown.alloc _) hg2 (by first | omega | (simp; done) | (simp; omega)); have hz2 := hb2.size; clear hg2))
            go_roundw
            case rel => exact ⟨k + 1, _, by go_num, hown2, hb2, by omega, HST.out⟩
            case measure => simp [intOf]; omega
          · have hf := fold_more hu (by omega)
            have HST := hstep _ hf
            have hal2 : acc.length + u.size ≤ 10000000 := by
              have e := congrArg List.length HST.out
              have e2 : u.data.toList.length = u.size := rfl
              rw [List.length_append, List.length_append] at e; omega
            have HST := Lib.hid HST
            have d1 : ((u.size : Int) == 1) = false := beq_eq_false_iff_ne.2 (by omega)
            have d2 : ((u.size : Int) == 2) = false := beq_eq_false_iff_ne.2 (by omega)
            clear hf hstep hu
            go_wp2_with (at_builtin; refine append_bstr _ rfl (.tmp 21) (.tmp 25) bsl5 Tryd.underlying9 rfl w1.heap.size _ _ rfl hown u rfl (by omega) (by omega) ?_; intro v2 w2 hown2 hg2; have hb2 := Below_grown hbel hown hg2 (by omega); have hz2 := hb2.size; clear hg2)
            go_roundw
            case rel => exact ⟨k + 1, _, by go_num, hown2, hb2, by omega, HST.out⟩
            case measure => simp [intOf]; omega
      · have hfin := foldU_end hrel hlt
        have HF := Lib.hid hfin
        have hcv := run_string_owned (P := Tryd.prog) (ts := 9) bsl5 Tryd.underlying9 hown
        clear hrel hfin
        go_wp2
        go_ret
        rw [← HF.out]
        exact ⟨rfl, hb1.trans (hbel.mono z1)⟩
end Go.Proofs.YtlbnhkojfefccaaDoor
