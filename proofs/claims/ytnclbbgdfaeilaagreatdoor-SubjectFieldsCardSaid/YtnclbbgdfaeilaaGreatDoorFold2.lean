/- Walk: fold.Fold. -/
import Derived.Test.YtnclbbgdfaeilaaGreatDoorFold1
import Derived.Test.YtnclbbgdfaeilaaGreatDoorFolP
import Derived.Test.YtnclbbgdfaeilaaGreatDoorBld
import Derived.Test.YtnclbbgdfaeilaaGreatDoorShelf
namespace Go.Proofs.YtnclbbgdfaeilaaGreatDoor
open Go.RowKit Pk U8 Fo

theorem iter_pos {w : World} {k p : Nat} {s : ByteArray} (h : w.heap[k]? = some (.stringIter s p)) : w.iterPos k = p := by unfold World.iterPos; rw [h]
theorem wrune (B b : Nat) (l : List UInt8) (r : Int) (w : World) (h : Bld w B b l) (h0 : 0 ≤ r) (h1 : r ≤ 1114111) (hl : l.length + 4 ≤ 140737488355328) (hB : B ≤ w.heap.size) :
    Calls Tryz.prog 73 #[.pointer (some ⟨b, 0, none⟩), .int .i32 r] w fun e w' => (∃ n : Int, e = .returned (.tuple #[.int .i64 n, .nilIface])) ∧ Bld w' B b (l ++ Lib.encodeRune r) ∧ Below B w w' ∧ Lib.OthersKept 5 (some b) w w' := by
  refine (Tryz.hB_WriteRune B b (Lib.byteCells l) r (by omega) (by omega) w h (by rw [Lib.byteCells_length]; exact hl) hB).mono fun e w' ⟨h1', h2, h3, h4⟩ => ⟨⟨_, h1'⟩, ?_, h3, h4⟩
  unfold Bld
  rw [Lib.byteCells_append, Lib.byteCells_encodeRune]
  exact Or.inr h2
theorem ext_tl (s : ByteArray) (p : Nat) : (s.extract p s.size).data.toList = tl s p := by
  rw [show (s.extract p s.size).data.toList = (s.data.toList.drop p).take (s.size - p) by rw [← Lib.extract_toList, Lib.toList_data]]
  rw [List.take_of_length_le (by rw [List.length_drop]; exact Nat.le_refl _)]; rfl
set_option maxHeartbeats 2000000 in
theorem foldP_any (s : ByteArray) (w : World) (hs : s.size ≤ 10000000) (b off cap : Nat) (hS : SpansAt w b off cap) :
    Calls Tryz.prog 38 #[.string s] w fun e w' => e = .returned (.string ⟨(foldL s.data.toList).toArray⟩) ∧ Below w.heap.size w w' := by
  have HS := Lib.hid hS
  clear hS
  go_enter Tryz.func38, Tryz.ntmps38
  go_wp2
  go_loopw [4, 5] (fun _ _ wr => ∃ (pos : Nat) (acc : List UInt8), wr.heap[w.heap.size + 1]? = some (.stringIter s pos) ∧ Bld wr w.heap.size w.heap.size acc ∧ Below w.heap.size w wr ∧ pos ≤ s.size ∧ acc.length ≤ pos ∧ Hid (acc ++ walk foldH (tl s pos) = foldL (tl s 0))) (fun _ _ wr => s.size - wr.iterPos (w.heap.size + 1))
  case atStart =>
    refine ⟨0, [], ?_, (Bld.new w).alloc _, ((Below.refl _ _).alloc (Nat.le_refl _) _).alloc (by simp) _, by omega, by simp, rfl⟩
    have := World.iter_heap (w.alloc (.cells #[.pointer none, .slice none 0 0] 48)) s 0
    simpa using this
  case round =>
    obtain ⟨pos, acc, hit, hB, hbel, hpos, hal, hrel⟩ := hrel
    have hsz := hbel.size
    by_cases hp : pos < s.size
    · obtain ⟨wd1, wd2, wd3⟩ := width_le hp
      have hne := tl_ne hp
      have hsca := dec_rune (tl s pos) hne
      have hstep := walk_step hrel hp
      have hfl := foldH_len (tl s pos) hne
      have hnx0 := fun ty => Lib.run_next_any_at (P := Tryz.prog) wr (w.heap.size + 1) s pos ty hit hp
      rw [dec_eq] at hnx0
      obtain ⟨W2, hW2⟩ : ∃ W2, W2 = wr.iterAt (w.heap.size + 1) s (pos + (dec (tl s pos)).2) := ⟨_, rfl⟩
      have hit2 : W2.heap[w.heap.size + 1]? = some (.stringIter s (pos + (dec (tl s pos)).2)) := by rw [hW2]; exact Lib.iterAt_heap _ _ _ _ _ hit
      have hB2 : Bld W2 w.heap.size w.heap.size acc := by rw [hW2]; exact Lib.IsBuilderF.iterAt hB hit _
      have hbel2 : Below w.heap.size w W2 := by rw [hW2]; exact Lib.below_iterAt hbel (by omega) _ _
      have hsz2 := hbel2.size
      have hlt2 : w.heap.size + 1 < W2.heap.size := (Array.getElem?_eq_some_iff.1 hit2).1
      rw [← hW2] at hnx0
      obtain ⟨R, hR⟩ : ∃ R, R = dec (tl s pos) := ⟨_, rfl⟩
      rw [← hR] at wd1 wd2 wd3 hsca hstep hfl hnx0 hit2
      have HIP := Lib.hid (iter_pos hit)
      clear hW2 hit hB hbel hsz hrel
      have hr4 : R.1 ≤ 1114111 := by unfold Sca at hsca; omega
      obtain ⟨lb0, lb1⟩ := lowI_bd R.1 hr4
      have hnx : ∀ ty, (Instr.next (.pointer (some ⟨w.heap.size + 1, 0, none⟩)) true ty).run Tryz.prog wr = .ok (.tuple #[.bool true, .int .i64 pos, .int .i32 R.1]) W2 := hnx0
      clear hnx0
      by_cases ho : Okay (tl s pos)
      · rw [foldH_ok ho, ← hR] at hstep hfl
        have HST := Lib.hid hstep
        have hfl' : (Lib.encodeRune (lowI (R.1 : Int))).length ≤ R.2 := by omega
        have hlw := Lib.hid (fun W hS => lower_any (R.1 : Int) W (by omega) (by omega) b off cap hS)
        clear hstep hfl
        by_cases h5 : R.1 = 65533
        · have hpre := Tryz.strings_HasPrefix (s.extract pos s.size) ⟨#[239, 191, 189]⟩
          have hpt : Lib.hasPrefix (s.extract pos s.size).data.toList (⟨#[239, 191, 189]⟩ : ByteArray).data.toList = true := by
            rw [show (s.extract pos s.size).data.toList = tl s pos from ext_tl s pos]
            have := pre_bad (tl s pos) hne (by rw [← hR]; exact h5)
            rw [decide_eq_true ho] at this
            exact this
          rw [hpt] at hpre
          have HPR := Lib.hid hpre
          have q1 : ((R.1 : Int) == 65533) = true := beq_iff_eq.2 (by omega)
          clear hpre hpt h5 ho hR
          go_wp2_with (first
            | (go_at_call 72; (with_reducible refine (HPR.out _).mono ?_); rintro e w1 ⟨rfl, rfl⟩)
            | (go_at_call 74; (with_reducible refine (hlw.out _ (HS.out.later hbel2)).mono ?_); rintro e w3 ⟨rfl, hb3⟩; have hB3 := hB2.below hb3 (Nat.le_refl _); have hit3 := (hb3.block _ hlt2).trans hit2; have hbel3 := hbel2.trans (hb3.mono hsz2); have hsz3 := hbel3.size)
            | (go_at_call 73; (with_reducible refine (wrune _ _ _ _ _ hB3 lb0 lb1 (by omega) (by omega)).mono ?_); rintro e w4 ⟨⟨n4, rfl⟩, hB4, hb4, hk4⟩; have hit4 := hk4.iter hit3 (by omega)))
          go_roundw
          case rel => exact ⟨pos + R.2, _, hit4, hB4, hbel3.trans hb4, by omega, by rw [List.length_append]; omega, HST.out⟩
          case measure => rw [HIP.out, iter_pos hit4]; omega
        · have q1 : ((R.1 : Int) == 65533) = false := beq_eq_false_iff_ne.2 (by omega)
          clear h5 ho hR
          go_wp2_with (first
            | (go_at_call 74; (with_reducible refine (hlw.out _ (HS.out.later hbel2)).mono ?_); rintro e w3 ⟨rfl, hb3⟩; have hB3 := hB2.below hb3 (Nat.le_refl _); have hit3 := (hb3.block _ hlt2).trans hit2; have hbel3 := hbel2.trans (hb3.mono hsz2); have hsz3 := hbel3.size)
            | (go_at_call 73; (with_reducible refine (wrune _ _ _ _ _ hB3 lb0 lb1 (by omega) (by omega)).mono ?_); rintro e w4 ⟨⟨n4, rfl⟩, hB4, hb4, hk4⟩; have hit4 := hk4.iter hit3 (by omega)))
          go_roundw
          case rel => exact ⟨pos + R.2, _, hit4, hB4, hbel3.trans hb4, by omega, by rw [List.length_append]; omega, HST.out⟩
          case measure => rw [HIP.out, iter_pos hit4]; omega
      · have hRb : R = (65533, 1) := hR.trans (dec_bad _ ho)
        have hpt : Lib.hasPrefix (s.extract pos s.size).data.toList (⟨#[239, 191, 189]⟩ : ByteArray).data.toList = false := by
          rw [show (s.extract pos s.size).data.toList = tl s pos from ext_tl s pos]
          have := pre_bad (tl s pos) hne (by rw [← hR, hRb])
          rw [decide_eq_false ho] at this
          exact this
        have hpre := Tryz.strings_HasPrefix (s.extract pos s.size) ⟨#[239, 191, 189]⟩
        rw [hpt] at hpre
        have HPR := Lib.hid hpre
        have q1 : ((R.1 : Int) == 65533) = true := by rw [hRb]; rfl
        have h1 : (tl s pos).take 1 = [s[pos]] := by rw [tl_cons s pos hp]; rfl
        rw [foldH_bad ho, h1] at hstep
        have HST := Lib.hid hstep
        clear hpre hpt hstep hfl h1 ho hR hRb
        go_wp2_with (first
          | (go_at_call 72; (with_reducible refine (HPR.out _).mono ?_); rintro e w1 ⟨rfl, rfl⟩)
          | (go_at_call 35; (with_reducible refine (wbc _ _ _ _ _ hB2 (by omega) (by omega)).mono ?_); rintro e w4 ⟨rfl, hB4, hb4, hk4⟩; have hit4 := hk4.iter hit2 (by omega)))
        go_roundw
        case rel => exact ⟨pos + R.2, _, hit4, hB4, hbel2.trans hb4, by omega, by rw [List.length_append, List.length_singleton]; omega, HST.out⟩
        case measure => rw [HIP.out, iter_pos hit4]; omega
    · have hnx : ∀ ty, (Instr.next (.pointer (some ⟨w.heap.size + 1, 0, none⟩)) true ty).run Tryz.prog wr = _ := fun ty => Lib.run_next_end_at wr (w.heap.size + 1) s pos ty hit hp
      have hfin := walk_end hrel hp
      rw [tl_zero] at hfin
      have HF := Lib.hid hfin
      clear hrel hfin
      go_wp2_with (go_at_call 32; (with_reducible refine (bstr _ _ _ _ hB (by omega)).mono ?_); rintro e w4 ⟨rfl, -, hb4, -⟩)
      go_ret
      rw [← HF.out]
      exact ⟨rfl, hbel.trans hb4⟩
end Go.Proofs.YtnclbbgdfaeilaaGreatDoor
