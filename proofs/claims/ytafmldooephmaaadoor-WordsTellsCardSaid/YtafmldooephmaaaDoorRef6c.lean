/- Walks: the reference of layer 6: hex, unhex, Ends, Q, Escapes, UnQ. -/
import Derived.Test.YtafmldooephmaaaDoorRef6b
namespace Go.Proofs.YtafmldooephmaaaDoor
open Go.RowKit Pk C6 Hx

theorem hex_any (n : Int) (w : World) (h0 : 0 ≤ n) (h1 : n < 16) :
    Calls Tryd.prog 54 #[.int .u8 n] w fun e w' => e = .returned (.int .u8 (hexC n).toNat) ∧ w = w' := by
  go_enter Tryd.func54, Tryd.ntmps54
  go_wp2
  · go_ret; exact ⟨ret_u8 (hexC_lo h0 ‹_›).symm, rfl⟩
  · go_ret; exact ⟨ret_u8 (hexC_hi ‹_› h1).symm, rfl⟩
theorem unhex_int (n : Int) (w : World) (h0 : 0 ≤ n) (h1 : n < 256) :
    Calls Tryd.prog 88 #[.int .u8 n] w fun e w' => e = .returned (.int .i64 (unhexI n)) ∧ w = w' := by
  rcases (show (48 ≤ n ∧ n ≤ 57) ∨ (97 ≤ n ∧ n ≤ 102) ∨ (65 ≤ n ∧ n ≤ 70) ∨ n < 48 ∨ (57 < n ∧ n < 65) ∨ (70 < n ∧ n < 97) ∨ 102 < n by omega) with ⟨a, b⟩ | ⟨a, b⟩ | ⟨a, b⟩ | a | ⟨a, b⟩ | ⟨a, b⟩ | a
  all_goals
    go_enter Tryd.func88, Tryd.ntmps88
    go_wp2
    go_ret
    first
      | exact ⟨ret_i64 (unhexI_num a b).symm, rfl⟩
      | exact ⟨ret_i64 (unhexI_low a b).symm, rfl⟩
      | exact ⟨ret_i64 (unhexI_up a b).symm, rfl⟩
      | exact ⟨ret_i64 (unhexI_no (by omega)).symm, rfl⟩
theorem unhex_any (c : UInt8) (w : World) :
    Calls Tryd.prog 88 #[.int .u8 c.toNat] w fun e w' => e = .returned (.int .i64 (unhexR c)) ∧ w = w' :=
  unhex_int _ w (by omega) (by have := c.toNat_lt; omega)

theorem qR_step {s : ByteArray} {k : Nat} {acc X d : List UInt8} (h : Hid (acc ++ qR (tl s k) = X)) (h0 : k < s.size) (hd : qc s[k] = d) : Hid (acc ++ d ++ qR (tl s (k + 1)) = X) := by
  have e := h.out
  rw [tl_cons s k h0, qR, hd] at e
  show _ = _
  rw [← e]; simp
theorem qR_end {s : ByteArray} {k : Nat} {acc : List UInt8} (h : Hid (acc ++ qR (tl s k) = qR (tl s 0))) (h0 : ¬ k < s.size) : acc = qR s.data.toList := by
  have e := h.out
  rw [tl_end s k (by omega), tl_zero] at e
  simpa [qR] using e
theorem qc_plain {c : UInt8} (h : plainQ c.toNat) : qc c = [c] := by unfold qc; rw [if_pos h]
theorem qc_blank {c : UInt8} (h : (c.toNat : Int) = 32) : qc c = [95] := by unfold qc; rw [if_neg (by rw [h]; decide), if_pos h]
theorem qc_esc {c : UInt8} (h : ¬ plainQ c.toNat) (h' : ¬ (c.toNat : Int) = 32) : qc c = [61, hexC ((c.toNat : Int) / 16), hexC ((c.toNat : Int) % 16)] := by unfold qc; rw [if_neg h, if_neg h']; rfl

theorem plain_yes {n : Int} (h : plainQ n) : (97 ≤ n ∧ n ≤ 122) ∨ (65 ≤ n ∧ n ≤ 90) ∨ (48 ≤ n ∧ n ≤ 57) ∨ (n ≤ 33 ∧ (n == 33) = true) ∨ (34 ≤ n ∧ n ≤ 42 ∧ (n == 42) = true) ∨ (43 ≤ n ∧ n ≤ 47 ∧ (n == 43) = true) ∨ (44 ≤ n ∧ n ≤ 47 ∧ (n == 45) = true) ∨ (46 ≤ n ∧ n ≤ 47 ∧ (n == 47) = true) := by
  unfold plainQ at h; simp only [beq_iff_eq]; omega
theorem plain_no {n : Int} (h : ¬ plainQ n) (h32 : ¬ n = 32) : n ≤ 31 ∨ (34 ≤ n ∧ n ≤ 41) ∨ (44 ≤ n ∧ n ≤ 46 ∧ (n == 45) = false) ∨ (58 ≤ n ∧ n ≤ 64) ∨ (91 ≤ n ∧ n ≤ 96) ∨ 123 ≤ n := by
  unfold plainQ at h; simp only [beq_eq_false_iff_ne]; omega

set_option maxHeartbeats 4000000 in
set_option maxRecDepth 100000 in
theorem qR_any (s : ByteArray) (w : World) (hs : s.size ≤ 1000000) :
    Calls Tryd.prog 30 #[.string s] w fun e w' => e = .returned (.string ⟨(qR s.data.toList).toArray⟩) ∧ Below w.heap.size w w' := by
  go_enter Tryd.func30, Tryd.ntmps30
  go_wp2
  go_loopw [3, 4] (fun v i wr => ∃ (k : Nat) (acc : List UInt8), i = .int .i64 k ∧ ownsB wr w.heap.size 5 v acc ∧ Below w.heap.size w wr ∧ k ≤ s.size ∧ acc.length ≤ 3 * k ∧ Hid (acc ++ qR (tl s k) = qR (tl s 0))) (fun _ i _ => s.size - (intOf i).toNat)
  case atStart => exact ⟨0, [], rfl, ownsB.nil _ _ _, Below.refl _ _, by omega, by simp, rfl⟩
  case round =>
    obtain ⟨k, acc, rfl, hown, hbel, hk, hal, hrel⟩ := hrel
    have hsz := hbel.size
    by_cases hlt : k < s.size
    · have hb := s[k].toNat_lt
      obtain ⟨t, ht⟩ : ∃ t : Bool, t = decide (plainQ s[k].toNat) := ⟨_, rfl⟩
      have HT := Lib.hid ht
      clear ht
      go_upto_region 6 with fail
      go_cut [56] (fun v wc => v = .bool t ∧ wc = wr)
      case first =>
        by_cases hp : plainQ s[k].toNat
        · obtain rfl : t = true := HT.out.trans (decide_eq_true hp)
          rcases plain_yes hp with ⟨a, b⟩ | ⟨a, b⟩ | ⟨a, b⟩ | ⟨b, c⟩ | ⟨a, b, c⟩ | ⟨a, b, c⟩ | ⟨a, b, c⟩ | ⟨a, b, c⟩
          all_goals
            clear hp
            go_wp2_with fail
            go_meet
            exact ⟨rfl, rfl⟩
        · obtain rfl : t = false := HT.out.trans (decide_eq_false hp)
          by_cases h32 : (s[k].toNat : Int) = 32
          · have b : (s[k].toNat : Int) ≤ 32 := by omega
            have c : ((s[k].toNat : Int) == 32) = true := beq_iff_eq.2 h32
            clear h32 hp
            go_wp2_with fail
            go_meet
            exact ⟨by first | rfl | (simp; omega), rfl⟩
          · rcases plain_no hp h32 with b | ⟨a, b⟩ | ⟨a, b, c⟩ | ⟨a, b⟩ | ⟨a, b⟩ | a
            all_goals
              clear hp h32
              go_wp2_with fail
              go_meet
              exact ⟨by first | rfl | (simp; omega) | (simp [c]; omega), rfl⟩
      case rest =>
        obtain ⟨rfl, rfl⟩ := hcut
        by_cases hp : plainQ s[k].toNat
        · obtain rfl : t = true := HT.out.trans (decide_eq_true hp)
          have hd := Lib.hid (qc_plain hp)
          clear hp
          go_wp2_with (at_builtin; refine append_bytes _ rfl (.tmp 57) (.tmp 59) bsl rfl w.heap.size _ _ rfl (hown.alloc _) ⟨_, 0, none⟩ 1 1 [_] rfl rfl (cells_new _ _ _) (by first | omega | (simp; done) | (simp; omega)) (by first | omega | (simp; done) | (simp; omega)) ?_; intro v1 w1 hown1 hg1; have hb1 := Below_grown (hbel.alloc hsz _) (hown.alloc _) hg1 (by first | omega | (simp; done) | (simp; omega)); have hz1 := hb1.size; clear hg1)
          go_roundw
          case rel => exact ⟨k + 1, _, by go_num, hown1, hb1, by omega, by simp; omega, qR_step hrel hlt hd.out⟩
          case measure => simp [intOf]; omega
        · obtain rfl : t = false := HT.out.trans (decide_eq_false hp)
          by_cases h32 : (s[k].toNat : Int) = 32
          · have hd := Lib.hid (qc_blank h32)
            have b : (s[k].toNat : Int) ≤ 32 := by omega
            have c : ((s[k].toNat : Int) == 32) = true := beq_iff_eq.2 h32
            clear h32 hp
            go_wp2_with (at_builtin; refine append_bytes _ rfl (.tmp 63) (.tmp 64) bsl rfl w.heap.size _ _ rfl (hown.alloc _) ⟨_, 0, none⟩ 1 1 [95] rfl rfl (cells_new _ _ _) (by first | omega | (simp; done) | (simp; omega)) (by first | omega | (simp; done) | (simp; omega)) ?_; intro v1 w1 hown1 hg1; have hb1 := Below_grown (hbel.alloc hsz _) (hown.alloc _) hg1 (by first | omega | (simp; done) | (simp; omega)); have hz1 := hb1.size; clear hg1)
            go_roundw
            case rel => exact ⟨k + 1, _, by go_num, hown1, hb1, by omega, by simp; omega, qR_step hrel hlt hd.out⟩
            case measure => simp [intOf]; omega
          · have hd := Lib.hid (qc_esc hp h32)
            have hq : ((s[k].toNat : Int) == 32) = false := beq_eq_false_iff_ne.2 h32
            clear hp h32
            go_wp2_with (first
            | (go_at_call 54; refine (hex_any _ _ (by omega) (by omega)).mono ?_; rintro e w' ⟨rfl, rfl⟩)
            | (at_builtin; refine append_bytes _ rfl (.tmp 66) (.tmp 73) bsl rfl w.heap.size _ _ rfl (hown.alloc _) ⟨_, 0, none⟩ 3 3 [61, _, _] rfl rfl (cells_new _ _ _) (by first | omega | (simp; done) | (simp; omega)) (by first | omega | (simp; done) | (simp; omega)) ?_; intro v1 w1 hown1 hg1; have hb1 := Below_grown (hbel.alloc hsz _) (hown.alloc _) hg1 (by first | omega | (simp; done) | (simp; omega)); have hz1 := hb1.size; clear hg1))
            go_roundw
            case rel => exact ⟨k + 1, _, by go_num, hown1, hb1, by omega, by simp; omega, qR_step hrel hlt hd.out⟩
            case measure => simp [intOf]; omega
    · have H := Lib.hid (qR_end hrel hlt)
      have hcv := run_string_owned (P := Tryd.prog) (ts := 9) bsl Tryd.underlying9 hown
      go_wp2
      go_ret
      rw [← H.out]
      exact ⟨rfl, hbel⟩

end Go.Proofs.YtafmldooephmaaaDoor
