/- Walks of the reference pouchref30: Small, spaces, blob. -/
import Derived.Test.YtmpggcjfmcigmaaDoorR04
namespace Go.Proofs.YtmpggcjfmcigmaaDoor
open Go.RowKit Pk U8 Su Fo

theorem bsl : ByteSl Tryd.prog 32 5 := bsl04
theorem b8_low {c : UInt8} (h : c.toNat ≤ 90) : b8 ((c.toNat : Int) + 32) = c + 32 := by
  apply UInt8.toNat_inj.1
  have := b8_toNat ((c.toNat : Int) + 32) (by omega) (by omega)
  rw [UInt8.toNat_add]
  have e : (32 : UInt8).toNat = 32 := rfl
  rw [e]
  omega
theorem lowR_step {s : ByteArray} {k : Nat} {acc X : List UInt8} {d : UInt8} (h : Hid (acc ++ (tl s k).map lowc = X)) (hk : k < s.size) (hd : lowc s[k] = d) : Hid (acc ++ [d] ++ (tl s (k + 1)).map lowc = X) := by
  have e := h.out
  rw [tl_cons s k hk, List.map_cons, hd] at e
  show _ = _
  rw [← e]; simp
theorem lowR_end {s : ByteArray} {k : Nat} {acc X : List UInt8} (h : Hid (acc ++ (tl s k).map lowc = X)) (hk : ¬ k < s.size) : acc = X := by
  have e := h.out
  rw [tl_end s k (by omega)] at e
  simpa using e
set_option maxHeartbeats 1000000 in
set_option maxRecDepth 100000 in
theorem smallR_any (s : ByteArray) (w : World) (hs : s.size ≤ 10000000) :
    Calls Tryd.prog 15 #[.string s] w fun e w' => e = .returned (.string ⟨(s.data.toList.map lowc).toArray⟩) ∧ Below w.heap.size w w' := by
  obtain ⟨X, hX⟩ : ∃ X, X = s.data.toList.map lowc := ⟨_, rfl⟩
  have h0 : Hid (([] : List UInt8) ++ (tl s 0).map lowc = X) := by show _ = _; rw [hX, tl_zero]; rfl
  rw [← hX]
  clear hX
  go_enter Tryd.func15, Tryd.ntmps15
  go_wp2
  go_loopw [3, 4] (fun v i wr => ∃ (k : Nat) (acc : List UInt8), i = .int .i64 k ∧ ownsB wr w.heap.size 5 v acc ∧ Below w.heap.size w wr ∧ k ≤ s.size ∧ acc.length ≤ k ∧ Hid (acc ++ (tl s k).map lowc = X)) (fun _ i _ => s.size - (intOf i).toNat)
  case atStart => exact ⟨0, [], rfl, ownsB.nil _ _ _, Below.refl _ _, by omega, by simp, h0⟩
  case round =>
    obtain ⟨k, acc, rfl, hown, hbel, hk, hal, hrel⟩ := hrel
    have hsz := hbel.size
    by_cases hlt : k < s.size
    · have hc := s[k].toNat_lt
      by_cases h1 : 65 ≤ s[k].toNat
      · by_cases h2 : s[k].toNat ≤ 90
        · have hd := lowR_step (d := b8 ((s[k].toNat : Int) + 32)) hrel hlt (by rw [b8_low h2]; unfold lowc; rw [if_pos ⟨h1, h2⟩])
          clear hrel
          go_wp2_with (at_builtin; refine append_bytes _ rfl (.tmp 23) (.tmp 25) bsl rfl w.heap.size _ _ rfl (hown.alloc _) ⟨_, 0, none⟩ 1 1 [b8 _] rfl rfl (cells_byte _ _ _ (by omega) (by omega)) (by first | omega | (simp; done) | (simp; omega)) (by first | omega | (simp; done) | (simp; omega)) ?_; intro v1 w1 hown1 hg1; have hb1 := Below_grown (hbel.alloc hsz _) (hown.alloc _) hg1 (by first | omega | (simp; done) | (simp; omega)); have hz1 := hb1.size; clear hg1)
          go_roundw
          case rel => exact ⟨k + 1, _, by go_num, hown1, hb1, by omega, by simp; omega, hd⟩
          case measure => simp [intOf]; omega
        · have hd := lowR_step (d := s[k]) hrel hlt (by unfold lowc; rw [if_neg (by omega)])
          clear hrel
          go_wp2_with (at_builtin; refine append_bytes _ rfl (.tmp 23) (.tmp 25) bsl rfl w.heap.size _ _ rfl (hown.alloc _) ⟨_, 0, none⟩ 1 1 [_] rfl rfl (cells_new _ _ _) (by first | omega | (simp; done) | (simp; omega)) (by first | omega | (simp; done) | (simp; omega)) ?_; intro v1 w1 hown1 hg1; have hb1 := Below_grown (hbel.alloc hsz _) (hown.alloc _) hg1 (by first | omega | (simp; done) | (simp; omega)); have hz1 := hb1.size; clear hg1)
          go_roundw
          case rel => exact ⟨k + 1, _, by go_num, hown1, hb1, by omega, by simp; omega, hd⟩
          case measure => simp [intOf]; omega
      · have hd := lowR_step (d := s[k]) hrel hlt (by unfold lowc; rw [if_neg (by omega)])
        clear hrel
        go_wp2_with (at_builtin; refine append_bytes _ rfl (.tmp 23) (.tmp 25) bsl rfl w.heap.size _ _ rfl (hown.alloc _) ⟨_, 0, none⟩ 1 1 [_] rfl rfl (cells_new _ _ _) (by first | omega | (simp; done) | (simp; omega)) (by first | omega | (simp; done) | (simp; omega)) ?_; intro v1 w1 hown1 hg1; have hb1 := Below_grown (hbel.alloc hsz _) (hown.alloc _) hg1 (by first | omega | (simp; done) | (simp; omega)); have hz1 := hb1.size; clear hg1)
        go_roundw
        case rel => exact ⟨k + 1, _, by go_num, hown1, hb1, by omega, by simp; omega, hd⟩
        case measure => simp [intOf]; omega
    · have H := Lib.hid (lowR_end hrel hlt)
      have hcv := run_string_owned (P := Tryd.prog) (ts := 9) bsl Tryd.underlying9 hown
      clear hrel
      go_wp2
      go_ret
      exact ⟨congrArg (fun l : List UInt8 => Ending.returned (.string ⟨l.toArray⟩)) H.out, hbel⟩

/-! spaces -/
def spaceAt (s : ByteArray) (k : Nat) : Nat := s.size - (free (tl s k)).length
theorem spaceAt_step {s : ByteArray} {k : Nat} (h : k < s.size) (hc : s[k] = 32) : spaceAt s (k + 1) = spaceAt s k := by
  unfold spaceAt; rw [tl_cons s k h, free_cons, if_pos hc]
theorem spaceAt_stop {s : ByteArray} {k : Nat} (h : k < s.size) (hc : ¬ s[k] = 32) : spaceAt s k = k := by
  unfold spaceAt; rw [tl_cons s k h, free_cons, if_neg hc]; simp [tl_length]; omega
theorem spaceAt_end {s : ByteArray} {k : Nat} (h : k = s.size) : spaceAt s k = k := by
  unfold spaceAt; rw [tl_end s k (by omega)]; simp [free]; omega
set_option maxHeartbeats 1000000 in
set_option maxRecDepth 100000 in
theorem spacesR_any (s : ByteArray) (at' : Nat) (w : World) (hs : s.size ≤ 10000000) (ha : at' ≤ s.size) :
    Calls Tryd.prog 76 #[.string s, .int .i64 at'] w fun e w' => e = .returned (.int .i64 (spaceAt s at')) ∧ w = w' := by
  obtain ⟨X, hX⟩ : ∃ X, X = spaceAt s at' := ⟨_, rfl⟩
  rw [← hX]
  have h0 : Hid (spaceAt s at' = X) := hX.symm
  clear hX
  go_enter Tryd.func76, Tryd.ntmps76
  go_wp2
  go_loopw [1] (fun i wr => ∃ (k : Nat), i = .int .i64 k ∧ wr = w ∧ k ≤ s.size ∧ Hid (spaceAt s k = X)) (fun i _ => s.size - (intOf i).toNat)
  case atStart => exact ⟨at', by first | rfl | trivial, by first | rfl | trivial, ha, h0⟩
  case round =>
    obtain ⟨k, rfl, rfl, hk, hrel⟩ := hrel
    by_cases hlt : k < s.size
    · by_cases hc : s[k] = 32
      · have hd : Hid (spaceAt s (k + 1) = X) := (spaceAt_step hlt hc).trans hrel.out
        have hq : ((s[k].toNat : Int) == 32) = true := by rw [hc]; rfl
        clear hrel hc
        go_wp2
        go_roundw
        case rel => exact ⟨k + 1, by go_num, by first | rfl | trivial, by omega, hd⟩
        case measure => simp [intOf]; omega
      · have hd := Lib.hid ((spaceAt_stop hlt hc).symm.trans hrel.out)
        have hq : ((s[k].toNat : Int) == 32) = false := beq_eq_false_iff_ne.2 (by have := u8_ne (n := 32) hc (by omega); omega)
        clear hrel hc
        go_wp2
        go_ret
        exact ⟨congrArg (fun l : Nat => Ending.returned (.int .i64 (l : Int))) hd.out, rfl⟩
    · have hd := Lib.hid ((spaceAt_end (s := s) (k := k) (by omega)).symm.trans hrel.out)
      clear hrel
      go_wp2
      go_ret
      exact ⟨congrArg (fun l : Nat => Ending.returned (.int .i64 (l : Int))) hd.out, rfl⟩
end Go.Proofs.YtmpggcjfmcigmaaDoor
