/- Walks: token: blank, atom, row, closed. -/
import Derived.Test.YtilccofdphohiaaGreatDoorTkL
import Derived.Test.YtilccofdphohiaaGreatDoorShelf
import Derived.Test.YtilccofdphohiaaGreatDoorRows
import Derived.WalkSmall
import Derived.Deep.DeepCutAuto
import Derived.Deep.LoopGhost
namespace Go.Proofs.YtilccofdphohiaaGreatDoor
open Go.RowKit Pk Tk Su

theorem blk_bool (c : UInt8) : Su.blk c = ((((c.toNat : Int) == 9) || ((c.toNat : Int) == 10)) || ((c.toNat : Int) == 13) || ((c.toNat : Int) == 32)) := by
  have e : ∀ n : Nat, n < 256 → Su.blk (UInt8.ofNat n) = ((((n : Int) == 9) || ((n : Int) == 10)) || ((n : Int) == 13) || ((n : Int) == 32)) := by decide +kernel
  have := e c.toNat c.toNat_lt
  simpa using this
set_option maxRecDepth 100000 in
theorem tblank_any (c : UInt8) (w : World) : Calls Tryz.prog 73 #[.int .u8 c.toNat] w fun e w' => e = .returned (.bool (Su.blk c)) ∧ w = w' := by
  rw [blk_bool c]
  cases h1 : ((c.toNat : Int) == 9)
  · cases h2 : ((c.toNat : Int) == 10)
    · cases h3 : ((c.toNat : Int) == 13)
      · cases h4 : ((c.toNat : Int) == 32)
        all_goals
          go_enter Tryz.func73, Tryz.ntmps73
          go_wp2
          go_ret
          exact ⟨rfl, rfl⟩
      · go_enter Tryz.func73, Tryz.ntmps73
        go_wp2
        go_ret
        exact ⟨rfl, rfl⟩
    · go_enter Tryz.func73, Tryz.ntmps73
      go_wp2
      go_ret
      exact ⟨rfl, rfl⟩
  · go_enter Tryz.func73, Tryz.ntmps73
    go_wp2
    go_ret
    exact ⟨rfl, rfl⟩
theorem spec_ix0 : ∀ n : Nat, n < 256 → decide (Lib.indexByte [40, 41, 60, 62, 91, 93, 58, 59, 64, 92, 44, 46, 34] (UInt8.ofNat n) < 0) = !(spec (UInt8.ofNat n)) ∧ decide (0 ≤ Lib.indexByte [40, 41, 60, 62, 91, 93, 58, 59, 64, 92, 44, 46, 34] (UInt8.ofNat n)) = spec (UInt8.ofNat n) := by decide +kernel
theorem spec_ix (c : UInt8) : decide (Lib.indexByte [40, 41, 60, 62, 91, 93, 58, 59, 64, 92, 44, 46, 34] c < 0) = !(spec c) ∧ decide (0 ≤ Lib.indexByte [40, 41, 60, 62, 91, 93, 58, 59, 64, 92, 44, 46, 34] c) = spec c := by
  have := spec_ix0 c.toNat c.toNat_lt
  simpa using this
theorem ibT0 (s : ByteArray) (x : UInt8) (w : World) : Calls Tryz.prog 75 #[.string s, .int .u8 x.toNat] w fun e w' => e = .returned (.int .i64 (Lib.indexByte s.data.toList x)) ∧ w = w' := by
  refine (Tryz.strings_IndexByte s x.toNat w).mono fun _ _ ⟨h1, h2⟩ => ⟨?_, h2.symm⟩
  rw [h1]; simp
theorem ibT (x : UInt8) (w : World) : Calls Tryz.prog 75 #[.string ⟨#[40, 41, 60, 62, 91, 93, 58, 59, 64, 92, 44, 46, 34]⟩, .int .u8 x.toNat] w fun e w' => e = .returned (.int .i64 (Lib.indexByte [40, 41, 60, 62, 91, 93, 58, 59, 64, 92, 44, 46, 34] x)) ∧ w = w' := ibT0 ⟨#[40, 41, 60, 62, 91, 93, 58, 59, 64, 92, 44, 46, 34]⟩ x w
set_option maxRecDepth 100000 in
theorem tatom_any (c : UInt8) (w : World) : Calls Tryz.prog 76 #[.int .u8 c.toNat] w fun e w' => e = .returned (.bool (atm c)) ∧ w = w' := by
  obtain ⟨ix, hix⟩ : ∃ ix, ix = Lib.indexByte [40, 41, 60, 62, 91, 93, 58, 59, 64, 92, 44, 46, 34] c := ⟨_, rfl⟩
  have hI := ibT c
  have hs := (spec_ix c).1
  rw [← hix] at hI hs
  have HI := Lib.hid hI
  have ha : atm c = (decide (32 < c.toNat) && !(c == 127) && decide (ix < 0)) := by unfold atm; rw [hs]
  have hc := c.toNat_lt
  clear hI hix hs
  by_cases h1 : 32 < c.toNat
  · by_cases h2 : c = 127
    · have e : atm c = false := by rw [ha, h2]; simp
      have q : ((c.toNat : Int) != 127) = false := by rw [h2]; rfl
      clear ha h2
      rw [e]
      clear e
      go_enter Tryz.func76, Tryz.ntmps76
      go_wp2_with (go_at_call 75; refine (HI.out _).mono ?_; rintro e w' ⟨rfl, rfl⟩)
      go_ret
      exact ⟨rfl, rfl⟩
    · have e : atm c = decide (ix < 0) := by rw [ha, decide_eq_true h1, beq_eq_false_iff_ne.2 h2]; simp
      have q : ((c.toNat : Int) != 127) = true := by
        rw [bne_iff_ne]; intro e; apply h2; rw [← UInt8.toNat_inj]; exact_mod_cast e
      clear ha h2
      rw [e]
      clear e
      go_enter Tryz.func76, Tryz.ntmps76
      go_wp2_with (go_at_call 75; refine (HI.out _).mono ?_; rintro e w' ⟨rfl, rfl⟩)
      go_ret
      exact ⟨rfl, rfl⟩
  · have e : atm c = false := by rw [ha, decide_eq_false h1]; rfl
    clear ha
    rw [e]
    clear e
    go_enter Tryz.func76, Tryz.ntmps76
    go_wp2_with (go_at_call 75; refine (HI.out _).mono ?_; rintro e w' ⟨rfl, rfl⟩)
    go_ret
    exact ⟨rfl, rfl⟩
/-- the first k bytes all satisfy p, and what follows decides -/
def RowIs (p : UInt8 → Bool) (s : ByteArray) (k : Nat) : Prop := k + ((tl s k).takeWhile p).length = (s.data.toList.takeWhile p).length
theorem row_step {p : UInt8 → Bool} {s : ByteArray} {k : Nat} (h : RowIs p s k) (hk : k < s.size) : (p s[k] = true → RowIs p s (k + 1)) ∧ (p s[k] = false → (s.data.toList.takeWhile p).length = k) := by
  unfold RowIs at *
  rw [tl_cons s k hk, List.takeWhile_cons] at h
  refine ⟨fun h1 => ?_, fun h1 => ?_⟩
  · rw [if_pos h1, List.length_cons] at h; omega
  · rw [if_neg (by rw [h1]; decide), List.length_nil] at h; omega
theorem row_end {p : UInt8 → Bool} {s : ByteArray} {k : Nat} (h : RowIs p s k) (hk : ¬ k < s.size) (hk2 : k ≤ s.size) : (s.data.toList.takeWhile p).length = s.size := by
  unfold RowIs at h
  rw [tl_end s k (by omega), List.takeWhile_nil, List.length_nil] at h; omega
def RowRet (p : UInt8 → Bool) (s : ByteArray) (w : World) (e : Ending) (w' : World) : Prop := e = .returned (.int .i64 ((s.data.toList.takeWhile p).length : Nat)) ∧ w = w'
set_option maxHeartbeats 1000000 in
set_option maxRecDepth 100000 in
theorem row_blank (s : ByteArray) (w : World) (hs : s.size ≤ 100000000) : Calls Tryz.prog 74 #[.string s, .func (.func 73) #[] #[]] w (RowRet Su.blk s w) := by
  have HF := Lib.hid tblank_any
  go_enter Tryz.func74, Tryz.ntmps74
  go_wp2
  go_loop [8] (fun iv => ∃ k : Nat, k ≤ s.size ∧ iv = .int .i64 k ∧ Hid (RowIs Su.blk s k)) (fun iv => s.size - (intOf iv).toNat)
  case atStart => exact ⟨0, by omega, rfl, show 0 + _ = _ by rw [tl_zero, Nat.zero_add]⟩
  case round =>
    obtain ⟨k, hk, rfl, hrel⟩ := hrel
    by_cases hlt : k < s.size
    · obtain ⟨s1, s2⟩ := row_step hrel.out hlt
      cases hp : Su.blk s[k] with
      | true =>
        have hd := Lib.hid (s1 hp)
        have hF := fun w => (HF.out s[k] w)
        rw [hp] at hF
        have HF2 := Lib.hid hF
        clear s1 s2 hF hp hrel
        go_wp2_with (go_at_call 73; refine (HF2.out _).mono ?_; rintro e w' ⟨rfl, rfl⟩)
        go_round
        case rel => exact ⟨k + 1, by omega, by go_num, hd⟩
        case measure => simp [intOf]; omega
      | false =>
        have hd : Hid (RowRet Su.blk s w (.returned (.int .i64 k)) w) := ⟨by rw [s2 hp], rfl⟩
        have hF := fun w => (HF.out s[k] w)
        rw [hp] at hF
        have HF2 := Lib.hid hF
        clear s1 s2 hF hp hrel
        go_wp2_with (go_at_call 73; refine (HF2.out _).mono ?_; rintro e w' ⟨rfl, rfl⟩)
        go_ret
        exact hd.out
    · have hd : Hid (RowRet Su.blk s w (.returned (.int .i64 s.size)) w) := ⟨by rw [row_end hrel.out hlt hk], rfl⟩
      clear hrel
      go_wp2
      go_ret
      exact hd.out
set_option maxHeartbeats 1000000 in
set_option maxRecDepth 100000 in
theorem row_atom (s : ByteArray) (w : World) (hs : s.size ≤ 100000000) : Calls Tryz.prog 74 #[.string s, .func (.func 76) #[] #[]] w (RowRet atm s w) := by
  have HF := Lib.hid tatom_any
  go_enter Tryz.func74, Tryz.ntmps74
  go_wp2
  go_loop [8] (fun iv => ∃ k : Nat, k ≤ s.size ∧ iv = .int .i64 k ∧ Hid (RowIs atm s k)) (fun iv => s.size - (intOf iv).toNat)
  case atStart => exact ⟨0, by omega, rfl, show 0 + _ = _ by rw [tl_zero, Nat.zero_add]⟩
  case round =>
    obtain ⟨k, hk, rfl, hrel⟩ := hrel
    by_cases hlt : k < s.size
    · obtain ⟨s1, s2⟩ := row_step hrel.out hlt
      cases hp : atm s[k] with
      | true =>
        have hd := Lib.hid (s1 hp)
        have hF := fun w => (HF.out s[k] w)
        rw [hp] at hF
        have HF2 := Lib.hid hF
        clear s1 s2 hF hp hrel
        go_wp2_with (go_at_call 76; refine (HF2.out _).mono ?_; rintro e w' ⟨rfl, rfl⟩)
        go_round
        case rel => exact ⟨k + 1, by omega, by go_num, hd⟩
        case measure => simp [intOf]; omega
      | false =>
        have hd : Hid (RowRet atm s w (.returned (.int .i64 k)) w) := ⟨by rw [s2 hp], rfl⟩
        have hF := fun w => (HF.out s[k] w)
        rw [hp] at hF
        have HF2 := Lib.hid hF
        clear s1 s2 hF hp hrel
        go_wp2_with (go_at_call 76; refine (HF2.out _).mono ?_; rintro e w' ⟨rfl, rfl⟩)
        go_ret
        exact hd.out
    · have hd : Hid (RowRet atm s w (.returned (.int .i64 s.size)) w) := ⟨by rw [row_end hrel.out hlt hk], rfl⟩
      clear hrel
      go_wp2
      go_ret
      exact hd.out
end Go.Proofs.YtilccofdphohiaaGreatDoor
