/- Walks of the reference pouchref30: blob. -/
import Derived.Test.YtmpggcjfmcigmaaDoorR30b
namespace Go.Proofs.YtmpggcjfmcigmaaDoor
open Go.RowKit Pk U8 Su Fo

def ixO (s : ByteArray) (o : Option (List UInt8)) : Int := match o with
  | none => -1
  | some t => ((s.size - t.length : Nat) : Int)
theorem blob_no {s : ByteArray} {k : Nat} (h : ¬ k < s.size) : ixO s (blob (tl s k)) = -1 := by
  rw [tl_end s k (by omega)]; rfl
theorem blob_not {s : ByteArray} {k : Nat} (h : k < s.size) (hc : ¬ s[k] = 91) : ixO s (blob (tl s k)) = -1 := by
  rw [tl_cons s k h]; show ixO s (if _ then _ else _) = _; rw [if_neg hc]; rfl
theorem blob_in {s : ByteArray} {k : Nat} (h : k < s.size) (hc : s[k] = 91) : blob (tl s k) = blobIn (tl s (k + 1)) := by
  rw [tl_cons s k h]; show (if _ then _ else _) = _; rw [if_pos hc]
theorem bin_end {s : ByteArray} {k : Nat} (h : ¬ k < s.size) : ixO s (blobIn (tl s k)) = -1 := by
  rw [tl_end s k (by omega)]; rfl
theorem bin_open {s : ByteArray} {k : Nat} (h : k < s.size) (hc : s[k] = 91) : ixO s (blobIn (tl s k)) = -1 := by
  rw [tl_cons s k h, blobIn, hc]; rfl
theorem bin_shut {s : ByteArray} {k : Nat} (h : k < s.size) (hc : s[k] = 93) : ixO s (blobIn (tl s k)) = ((spaceAt s (k + 1) : Nat) : Int) := by
  rw [tl_cons s k h, blobIn, if_pos hc]; rfl
theorem bin_more {s : ByteArray} {k : Nat} (h : k < s.size) (h1 : ¬ s[k] = 93) (h2 : ¬ s[k] = 91) : blobIn (tl s k) = blobIn (tl s (k + 1)) := by
  rw [tl_cons s k h, blobIn, if_neg h1, if_neg h2]
theorem spacesR_succ (s : ByteArray) (i : Nat) (w : World) (hs : s.size ≤ 10000000) (ha : i < s.size) :
    Calls Tryd.prog 76 #[.string s, .int .i64 ((i : Int) + 1)] w fun e w' => e = .returned (.int .i64 (spaceAt s (i + 1))) ∧ w = w' := spacesR_any s (i + 1) w hs ha
set_option maxHeartbeats 1000000 in
set_option maxRecDepth 100000 in
theorem blobR_any (s : ByteArray) (k : Nat) (w : World) (hs : s.size ≤ 10000000) (hk : k ≤ s.size) :
    Calls Tryd.prog 59 #[.string s, .int .i64 k] w fun e w' => e = .returned (.int .i64 (ixO s (blob (tl s k)))) ∧ w = w' := by
  by_cases h : k < s.size
  · have hk1 : decide (s.size ≤ k) = false := decide_eq_false (by omega)
    by_cases hc : s[k] = 91
    · have hq : ((s[k].toNat : Int) == 91) = true := by rw [hc]; rfl
      obtain ⟨X, hX⟩ : ∃ X, X = ixO s (blob (tl s k)) := ⟨_, rfl⟩
      have h0 : Hid (ixO s (blobIn (tl s (k + 1))) = X) := by show _ = _; rw [hX, blob_in h hc]
      rw [← hX]
      clear hX hc
      go_enter Tryd.func59, Tryd.ntmps59
      go_wp2
      go_loopw [5] (fun i wr => ∃ (j : Nat), i = .int .i64 j ∧ wr = w ∧ j ≤ s.size ∧ Hid (ixO s (blobIn (tl s j)) = X)) (fun i _ => s.size - (intOf i).toNat)
      case atStart => exact ⟨k + 1, by go_num, by first | rfl | trivial, by omega, h0⟩
      case round =>
        obtain ⟨j, rfl, rfl, hj, hrel⟩ := hrel
        by_cases hlt : j < s.size
        · have hj1 : decide (s.size ≤ j) = false := decide_eq_false (by omega)
          by_cases h93 : s[j] = 93
          · have hd := Lib.hid ((bin_shut hlt h93).symm.trans hrel.out)
            have q1 : ((s[j].toNat : Int) == 93) = true := by rw [h93]; rfl
            have q1' : ((s[j].toNat : Int) != 93) = false := by simp only [bne, q1]; rfl
            have q2 : ((s[j].toNat : Int) == 91) = false := by rw [h93]; rfl
            have q2' : ((s[j].toNat : Int) != 91) = true := by simp only [bne, q2]; rfl
            clear hrel h93
            go_wp2_with (go_at_call 76; refine (spacesR_succ s j _ hs hlt).mono ?_; rintro e w' ⟨rfl, rfl⟩)
            go_ret
            exact ⟨congrArg (fun l : Int => Ending.returned (.int .i64 l)) hd.out, rfl⟩
          · have q1 : ((s[j].toNat : Int) == 93) = false := beq_eq_false_iff_ne.2 (by have := u8_ne (n := 93) h93 (by omega); omega)
            have q1' : ((s[j].toNat : Int) != 93) = true := by simp only [bne, q1]; rfl
            by_cases h91 : s[j] = 91
            · have hd := Lib.hid ((bin_open hlt h91).symm.trans hrel.out)
              have q2 : ((s[j].toNat : Int) == 91) = true := by rw [h91]; rfl
              have q2' : ((s[j].toNat : Int) != 91) = false := by simp only [bne, q2]; rfl
              clear hrel h93 h91
              go_wp2
              go_ret
              exact ⟨congrArg (fun l : Int => Ending.returned (.int .i64 l)) hd.out, rfl⟩
            · have q2 : ((s[j].toNat : Int) == 91) = false := beq_eq_false_iff_ne.2 (by have := u8_ne (n := 91) h91 (by omega); omega)
              have q2' : ((s[j].toNat : Int) != 91) = true := by simp only [bne, q2]; rfl
              have hd : Hid (ixO s (blobIn (tl s (j + 1))) = X) := by rw [← bin_more hlt h93 h91]; exact hrel
              clear hrel h93 h91
              go_wp2
              go_roundw
              case rel => exact ⟨j + 1, by go_num, by first | rfl | trivial, by omega, hd⟩
              case measure => simp [intOf]; omega
        · have hj1 : decide (s.size ≤ j) = true := decide_eq_true (by omega)
          have hd := Lib.hid ((bin_end hlt).symm.trans hrel.out)
          clear hrel
          go_wp2
          go_ret
          exact ⟨congrArg (fun l : Int => Ending.returned (.int .i64 l)) hd.out, rfl⟩
    · have hq : ((s[k].toNat : Int) == 91) = false := beq_eq_false_iff_ne.2 (by have := u8_ne (n := 91) hc (by omega); omega)
      rw [blob_not h hc]
      clear hc
      go_enter Tryd.func59, Tryd.ntmps59
      go_wp2
      go_ret
      exact ⟨rfl, rfl⟩
  · rw [blob_no h]
    have hk1 : decide (s.size ≤ k) = true := decide_eq_true (by omega)
    go_enter Tryd.func59, Tryd.ntmps59
    go_wp2
    go_ret
    exact ⟨rfl, rfl⟩
end Go.Proofs.YtmpggcjfmcigmaaDoor
