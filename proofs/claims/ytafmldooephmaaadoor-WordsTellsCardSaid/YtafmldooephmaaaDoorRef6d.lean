/- Walks: the reference of layer 6: Escapes, UnQ. -/
import Derived.Test.YtafmldooephmaaaDoorRef6c
namespace Go.Proofs.YtafmldooephmaaaDoor
open Go.RowKit Pk C6 Hx

theorem escR_hit {s : ByteArray} {k : Nat} {acc X : List UInt8} (h : Hid (acc ++ escR (tl s k) = X)) (h0 : k + 2 < s.size) (h1 : s[k].toNat = 61) (h2 : 0 ≤ unhexR s[k + 1]) (h3 : 0 ≤ unhexR s[k + 2]) :
    Hid (acc ++ [b8 (16 * unhexR s[k + 1] + unhexR s[k + 2])] ++ escR (tl s (k + 3)) = X) := by
  have e := h.out
  rw [tl_cons s k (by omega), tl_cons s (k + 1) (by omega), tl_cons s (k + 2) h0, escR, if_pos ⟨h1, h2, h3⟩] at e
  show _ = _
  rw [← e]; simp
theorem escR_miss {s : ByteArray} {k : Nat} {acc X : List UInt8} (h : Hid (acc ++ escR (tl s k) = X)) (h0 : k < s.size) (h1 : ¬ (∃ h : k + 2 < s.size, s[k].toNat = 61 ∧ 0 ≤ unhexR s[k + 1] ∧ 0 ≤ unhexR s[k + 2])) :
    Hid (acc ++ [s[k]] ++ escR (tl s (k + 1)) = X) := by
  have e := h.out
  show _ = _
  by_cases h2 : k + 2 < s.size
  · rw [tl_cons s k (by omega), tl_cons s (k + 1) (by omega), tl_cons s (k + 2) h2, escR, if_neg (fun c => h1 ⟨h2, c⟩)] at e
    rw [← e, tl_cons s (k + 1) (by omega), tl_cons s (k + 2) h2]; simp
  · by_cases h3 : k + 1 < s.size
    · rw [tl_cons s k (by omega), tl_cons s (k + 1) (by omega), tl_end s (k + 2) (by omega), escR] at e
      rw [← e, tl_cons s (k + 1) (by omega), tl_end s (k + 2) (by omega)]; simp [escR]
    · rw [tl_cons s k (by omega), tl_end s (k + 1) (by omega), escR] at e
      rw [← e, tl_end s (k + 1) (by omega)]; simp [escR]
theorem escR_end {s : ByteArray} {k : Nat} {acc : List UInt8} (h : Hid (acc ++ escR (tl s k) = escR (tl s 0))) (h0 : ¬ k < s.size) : acc = escR s.data.toList := by
  have e := h.out
  rw [tl_end s k (by omega), tl_zero] at e
  simpa [escR] using e

set_option maxHeartbeats 4000000 in
set_option maxRecDepth 100000 in
theorem escR_any (s : ByteArray) (w : World) (hs : s.size ≤ 4000000) :
    Calls Tryd.prog 71 #[.string s] w fun e w' => e = .returned (.string ⟨(escR s.data.toList).toArray⟩) ∧ Below w.heap.size w w' := by
  go_enter Tryd.func71, Tryd.ntmps71
  go_wp2
  go_loopw [3, 4] (fun v i wr => ∃ (k : Nat) (acc : List UInt8), i = .int .i64 k ∧ ownsB wr w.heap.size 5 v acc ∧ Below w.heap.size w wr ∧ k ≤ s.size ∧ acc.length ≤ k ∧ Hid (acc ++ escR (tl s k) = escR (tl s 0))) (fun _ i _ => s.size - (intOf i).toNat)
  case atStart => exact ⟨0, [], rfl, ownsB.nil _ _ _, Below.refl _ _, by omega, by simp, rfl⟩
  case round =>
    obtain ⟨k, acc, rfl, hown, hbel, hk, hal, hrel⟩ := hrel
    have hsz := hbel.size
    by_cases hlt : k < s.size
    · by_cases h61 : s[k].toNat = 61
      · have hq : ((s[k].toNat : Int) == 61) = true := beq_iff_eq.2 (by omega)
        have H61 := Lib.hid h61
        clear h61
        by_cases h2 : k + 2 < s.size
        · obtain ⟨r1, r2⟩ := unhexR_range s[k + 1]
          obtain ⟨r3, r4⟩ := unhexR_range s[k + 2]
          by_cases h3 : 0 ≤ unhexR s[k + 1] ∧ 0 ≤ unhexR s[k + 2]
          · obtain ⟨h3, h4⟩ := h3
            go_wp2_with (first
            | (go_at_call 88; refine (unhex_any _ _).mono ?_; rintro e w' ⟨rfl, rfl⟩)
            | (at_builtin; refine append_bytes _ rfl (.tmp 40) (.tmp 46) bsl rfl w.heap.size _ _ rfl (hown.alloc _) ⟨_, 0, none⟩ 1 1 [b8 _] rfl rfl (cells_byte _ _ _ (by omega) (by omega)) (by first | omega | (simp; done) | (simp; omega)) (by first | omega | (simp; done) | (simp; omega)) ?_; intro v1 w1 hown1 hg1; have hb1 := Below_grown (hbel.alloc hsz _) (hown.alloc _) hg1 (by first | omega | (simp; done) | (simp; omega)); have hz1 := hb1.size; clear hg1))
            go_roundw
            case rel => exact ⟨k + 3, _, by go_num, hown1, hb1, by omega, by simp; omega, escR_hit hrel h2 H61.out h3 h4⟩
            case measure => simp [intOf]; omega
          · have hm := escR_miss hrel hlt (fun ⟨_, _, c⟩ => h3 c)
            rcases (show unhexR s[k + 1] < 0 ∨ (0 ≤ unhexR s[k + 1] ∧ unhexR s[k + 2] < 0) by omega) with a | ⟨a, b⟩
            all_goals
              clear h3
              go_wp2_with (first
            | (go_at_call 88; refine (unhex_any _ _).mono ?_; rintro e w' ⟨rfl, rfl⟩)
            | (at_builtin; refine append_bytes _ rfl (.tmp 50) (.tmp 54) bsl rfl w.heap.size _ _ rfl (hown.alloc _) ⟨_, 0, none⟩ 1 1 [_] rfl rfl (cells_new _ _ _) (by first | omega | (simp; done) | (simp; omega)) (by first | omega | (simp; done) | (simp; omega)) ?_; intro v1 w1 hown1 hg1; have hb1 := Below_grown (hbel.alloc hsz _) (hown.alloc _) hg1 (by first | omega | (simp; done) | (simp; omega)); have hz1 := hb1.size; clear hg1))
              go_roundw
              case rel => exact ⟨k + 1, _, by go_num, hown1, hb1, by omega, by simp; omega, hm⟩
              case measure => simp [intOf]; omega
        · have hm := escR_miss hrel hlt (fun ⟨c, _⟩ => h2 c)
          go_wp2_with (at_builtin; refine append_bytes _ rfl (.tmp 50) (.tmp 54) bsl rfl w.heap.size _ _ rfl (hown.alloc _) ⟨_, 0, none⟩ 1 1 [_] rfl rfl (cells_new _ _ _) (by first | omega | (simp; done) | (simp; omega)) (by first | omega | (simp; done) | (simp; omega)) ?_; intro v1 w1 hown1 hg1; have hb1 := Below_grown (hbel.alloc hsz _) (hown.alloc _) hg1 (by first | omega | (simp; done) | (simp; omega)); have hz1 := hb1.size; clear hg1)
          go_roundw
          case rel => exact ⟨k + 1, _, by go_num, hown1, hb1, by omega, by simp; omega, hm⟩
          case measure => simp [intOf]; omega
      · have hq : ((s[k].toNat : Int) == 61) = false := beq_eq_false_iff_ne.2 (by omega)
        have hm := escR_miss hrel hlt (fun ⟨_, c, _⟩ => h61 c)
        go_wp2_with (at_builtin; refine append_bytes _ rfl (.tmp 50) (.tmp 54) bsl rfl w.heap.size _ _ rfl (hown.alloc _) ⟨_, 0, none⟩ 1 1 [_] rfl rfl (cells_new _ _ _) (by first | omega | (simp; done) | (simp; omega)) (by first | omega | (simp; done) | (simp; omega)) ?_; intro v1 w1 hown1 hg1; have hb1 := Below_grown (hbel.alloc hsz _) (hown.alloc _) hg1 (by first | omega | (simp; done) | (simp; omega)); have hz1 := hb1.size; clear hg1)
        go_roundw
        case rel => exact ⟨k + 1, _, by go_num, hown1, hb1, by omega, by simp; omega, hm⟩
        case measure => simp [intOf]; omega
    · have H := Lib.hid (escR_end hrel hlt)
      have hcv := run_string_owned (P := Tryd.prog) (ts := 9) bsl Tryd.underlying9 hown
      go_wp2
      go_ret
      rw [← H.out]
      exact ⟨rfl, hbel⟩

def ub (c : UInt8) : UInt8 := if c.toNat = 95 then 32 else c
theorem unblank_step {s : ByteArray} {k : Nat} {acc X : List UInt8} {d : UInt8} (h : Hid (acc ++ unblank (tl s k) = X)) (h0 : k < s.size) (hd : ub s[k] = d) : Hid (acc ++ [d] ++ unblank (tl s (k + 1)) = X) := by
  have e := h.out
  rw [tl_cons s k h0] at e
  show _ = _
  rw [← e, ← hd]; simp [unblank, ub]
theorem unblank_end {s : ByteArray} {k : Nat} {acc : List UInt8} (h : Hid (acc ++ unblank (tl s k) = unblank (tl s 0))) (h0 : ¬ k < s.size) : acc = unblank s.data.toList := by
  have e := h.out
  rw [tl_end s k (by omega), tl_zero] at e
  simpa [unblank] using e
theorem unblank_length (l : List UInt8) : (unblank l).length = l.length := by simp [unblank]

set_option maxHeartbeats 4000000 in
set_option maxRecDepth 100000 in
theorem unQR_any (s : ByteArray) (w : World) (hs : s.size ≤ 4000000) :
    Calls Tryd.prog 44 #[.string s] w fun e w' => e = .returned (.string ⟨(unQR s.data.toList).toArray⟩) ∧ Below w.heap.size w w' := by
  go_enter Tryd.func44, Tryd.ntmps44
  go_wp2
  go_loopw [3, 4] (fun v i wr => ∃ (k : Nat) (acc : List UInt8), i = .int .i64 k ∧ ownsB wr w.heap.size 5 v acc ∧ Below w.heap.size w wr ∧ k ≤ s.size ∧ acc.length ≤ k ∧ Hid (acc ++ unblank (tl s k) = unblank (tl s 0))) (fun _ i _ => s.size - (intOf i).toNat)
  case atStart => exact ⟨0, [], rfl, ownsB.nil _ _ _, Below.refl _ _, by omega, by simp, rfl⟩
  case round =>
    obtain ⟨k, acc, rfl, hown, hbel, hk, hal, hrel⟩ := hrel
    have hsz := hbel.size
    by_cases hlt : k < s.size
    · by_cases h95 : s[k].toNat = 95
      · have hq : ((s[k].toNat : Int) == 95) = true := beq_iff_eq.2 (by omega)
        have hd := Lib.hid (show ub s[k] = 32 by unfold ub; rw [if_pos h95])
        clear h95
        go_wp2_with (at_builtin; refine append_bytes _ rfl (.tmp 15) (.tmp 16) bsl rfl w.heap.size _ _ rfl (hown.alloc _) ⟨_, 0, none⟩ 1 1 [32] rfl rfl (cells_new _ _ _) (by first | omega | (simp; done) | (simp; omega)) (by first | omega | (simp; done) | (simp; omega)) ?_; intro v1 w1 hown1 hg1; have hb1 := Below_grown (hbel.alloc hsz _) (hown.alloc _) hg1 (by first | omega | (simp; done) | (simp; omega)); have hz1 := hb1.size; clear hg1)
        go_roundw
        case rel => exact ⟨k + 1, _, by go_num, hown1, hb1, by omega, by simp; omega, unblank_step hrel hlt hd.out⟩
        case measure => simp [intOf]; omega
      · have hq : ((s[k].toNat : Int) == 95) = false := beq_eq_false_iff_ne.2 (by omega)
        have hd := Lib.hid (show ub s[k] = s[k] by unfold ub; rw [if_neg h95])
        clear h95
        go_wp2_with (at_builtin; refine append_bytes _ rfl (.tmp 18) (.tmp 22) bsl rfl w.heap.size _ _ rfl (hown.alloc _) ⟨_, 0, none⟩ 1 1 [_] rfl rfl (cells_new _ _ _) (by first | omega | (simp; done) | (simp; omega)) (by first | omega | (simp; done) | (simp; omega)) ?_; intro v1 w1 hown1 hg1; have hb1 := Below_grown (hbel.alloc hsz _) (hown.alloc _) hg1 (by first | omega | (simp; done) | (simp; omega)); have hz1 := hb1.size; clear hg1)
        go_roundw
        case rel => exact ⟨k + 1, _, by go_num, hown1, hb1, by omega, by simp; omega, unblank_step hrel hlt hd.out⟩
        case measure => simp [intOf]; omega
    · have H := Lib.hid (unblank_end hrel hlt)
      have hsl : (⟨acc.toArray⟩ : ByteArray).size ≤ 4000000 := by
        have e : (⟨acc.toArray⟩ : ByteArray).size = acc.length := rfl
        have e2 : s.data.toList.length = s.size := rfl
        rw [e, H.out, unblank_length, e2]; exact hs
      have hcv := run_string_owned (P := Tryd.prog) (ts := 9) bsl Tryd.underlying9 hown
      go_wp2_with (go_at_call 71; refine (escR_any _ _ hsl).mono ?_; rintro e w' ⟨rfl, hb⟩)
      go_ret
      refine ⟨?_, hbel.trans (hb.mono hsz)⟩
      simp [unQR, ← H.out]
end Go.Proofs.YtafmldooephmaaaDoor
