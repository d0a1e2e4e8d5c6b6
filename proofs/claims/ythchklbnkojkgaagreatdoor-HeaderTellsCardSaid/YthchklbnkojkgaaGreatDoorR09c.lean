/- Walks: reference 09: Clean. -/
import Derived.Test.YthchklbnkojkgaaGreatDoorR09b
namespace Go.Proofs.YthchklbnkojkgaaGreatDoor
open Go.RowKit Pk Hd

theorem bsl : ByteSl Tryz.prog 47 5 := bslH
theorem spcR_step {s : ByteArray} {k : Nat} {acc X : List UInt8} {d : UInt8} (h : Hid (acc ++ (tl s k).map spc = X)) (hk : k < s.size) (hd : spc s[k] = d) : Hid (acc ++ [d] ++ (tl s (k + 1)).map spc = X) := by
  have e := h.out
  rw [tl_cons s k hk, List.map_cons, hd] at e
  show _ = _
  rw [← e]; simp
theorem spcR_end {s : ByteArray} {k : Nat} {acc X : List UInt8} (h : Hid (acc ++ (tl s k).map spc = X)) (hk : ¬ k < s.size) : acc = X := by
  have e := h.out
  rw [tl_end s k (by omega)] at e
  simpa using e
set_option maxHeartbeats 1000000 in
set_option maxRecDepth 100000 in
theorem rclean_any (s : ByteArray) (w : World) (hs : s.size ≤ 10000000) :
    Calls Tryz.prog 18 #[.string s] w fun e w' => e = .returned (.string (toB (cleanL s.data.toList))) ∧ Below w.heap.size w w' := by
  obtain ⟨X, hX⟩ : ∃ X, X = s.data.toList.map spc := ⟨_, rfl⟩
  have h0 : Hid (([] : List UInt8) ++ (tl s 0).map spc = X) := by show _ = _; rw [hX, tl_zero]; rfl
  have hXl : X.length = s.size := by rw [hX, List.length_map, dataL]
  have hT := fun w => rtrim_any (toB X) w (by rw [← dataL, toB_data]; omega)
  rw [toB_data] at hT
  have hcl : cleanL s.data.toList = trimB X := by rw [hX]; rfl
  rw [hcl]
  have hT : ∀ w, Calls Tryz.prog 17 #[.string ⟨X.toArray⟩] w fun e w' => e = .returned (.string (toB (trimB X))) ∧ w = w' := hT
  have HT := Lib.hid hT
  clear hX hXl hT hcl
  go_enter Tryz.func18, Tryz.ntmps18
  go_wp2
  go_loopw [3, 4] (fun v i wr => ∃ (k : Nat) (acc : List UInt8), i = .int .i64 k ∧ ownsB wr w.heap.size 5 v acc ∧ Below w.heap.size w wr ∧ k ≤ s.size ∧ acc.length ≤ k ∧ Hid (acc ++ (tl s k).map spc = X)) (fun _ i _ => s.size - (intOf i).toNat)
  case atStart => exact ⟨0, [], rfl, ownsB.nil _ _ _, Below.refl _ _, by omega, by simp, h0⟩
  case round =>
    obtain ⟨k, acc, rfl, hown, hbel, hk, hal, hrel⟩ := hrel
    have hsz := hbel.size
    by_cases hlt : k < s.size
    · have hc := s[k].toNat_lt
      have q1 : ((s[k].toNat : Int) == 10) = decide (s[k] = 10) := u8k 10 (by decide)
      have q2 : ((s[k].toNat : Int) == 13) = decide (s[k] = 13) := u8k 13 (by decide)
      by_cases h1 : s[k] = 10
      · rw [decide_eq_true h1] at q1
        have hd := spcR_step (d := 32) hrel hlt (by unfold spc; rw [if_pos (.inr h1)])
        clear hrel q2 h1
        go_wp2_with (at_builtin; refine append_bytes _ rfl (.tmp 21) (.tmp 23) bsl rfl w.heap.size _ _ rfl (hown.alloc _) ⟨_, 0, none⟩ 1 1 [(32 : UInt8)] rfl rfl (cells_new _ _ _) (by first | omega | (simp; done) | (simp; omega)) (by first | omega | (simp; done) | (simp; omega)) ?_; intro v1 w1 hown1 hg1; have hb1 := Below_grown (hbel.alloc hsz _) (hown.alloc _) hg1 (by first | omega | (simp; done) | (simp; omega)); have hz1 := hb1.size; clear hg1)
        go_roundw
        case rel => exact ⟨k + 1, _, by go_num, hown1, hb1, by omega, by simp; omega, hd⟩
        case measure => simp [intOf]; omega
      · rw [decide_eq_false h1] at q1
        by_cases h2 : s[k] = 13
        · rw [decide_eq_true h2] at q2
          have hd := spcR_step (d := 32) hrel hlt (by unfold spc; rw [if_pos (.inl h2)])
          clear hrel h1 h2
          go_wp2_with (at_builtin; refine append_bytes _ rfl (.tmp 21) (.tmp 23) bsl rfl w.heap.size _ _ rfl (hown.alloc _) ⟨_, 0, none⟩ 1 1 [(32 : UInt8)] rfl rfl (cells_new _ _ _) (by first | omega | (simp; done) | (simp; omega)) (by first | omega | (simp; done) | (simp; omega)) ?_; intro v1 w1 hown1 hg1; have hb1 := Below_grown (hbel.alloc hsz _) (hown.alloc _) hg1 (by first | omega | (simp; done) | (simp; omega)); have hz1 := hb1.size; clear hg1)
          go_roundw
          case rel => exact ⟨k + 1, _, by go_num, hown1, hb1, by omega, by simp; omega, hd⟩
          case measure => simp [intOf]; omega
        · rw [decide_eq_false h2] at q2
          have hd := spcR_step (d := s[k]) hrel hlt (by unfold spc; rw [if_neg (fun e => e.elim h2 h1)])
          clear hrel h1 h2
          go_wp2_with (at_builtin; refine append_bytes _ rfl (.tmp 21) (.tmp 23) bsl rfl w.heap.size _ _ rfl (hown.alloc _) ⟨_, 0, none⟩ 1 1 [_] rfl rfl (cells_new _ _ _) (by first | omega | (simp; done) | (simp; omega)) (by first | omega | (simp; done) | (simp; omega)) ?_; intro v1 w1 hown1 hg1; have hb1 := Below_grown (hbel.alloc hsz _) (hown.alloc _) hg1 (by first | omega | (simp; done) | (simp; omega)); have hz1 := hb1.size; clear hg1)
          go_roundw
          case rel => exact ⟨k + 1, _, by go_num, hown1, hb1, by omega, by simp; omega, hd⟩
          case measure => simp [intOf]; omega
    · have H := spcR_end hrel hlt
      subst H
      have hcv := run_string_owned (P := Tryz.prog) (ts := 9) bsl Tryz.underlying9 hown
      clear hrel
      go_wp2_with (go_at_call 17; (with_reducible refine (HT.out _).mono ?_); rintro e w1 ⟨rfl, rfl⟩)
      go_ret
      exact ⟨rfl, hbel⟩
end Go.Proofs.YthchklbnkojkgaaGreatDoor
