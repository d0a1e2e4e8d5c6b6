/- Walks: token: closed, front. -/
import Derived.Test.YtilccofdphohiaaGreatDoorTk1
import Derived.Test.YtilccofdphohiaaGreatDoorR10P
namespace Go.Proofs.YtilccofdphohiaaGreatDoor
open Go.RowKit Pk Tk Su

def cloV (close : UInt8) (s : ByteArray) : Value := match cloX close s with
  | some m => .tuple #[.int .i64 (m : Nat), .bool true]
  | none => .tuple #[.int .i64 s.size, .bool false]
def CloRet (close : UInt8) (s : ByteArray) (w : World) (e : Ending) (w' : World) : Prop := e = .returned (cloV close s) ∧ w = w'
theorem clo_yes {close : UInt8} {s : ByteArray} {k : Nat} {w : World} (h : cloX close s = some (k + 1)) {n : Int} (hn : n = (k : Int) + 1) : CloRet close s w (.returned (.tuple #[.int .i64 n, .bool true])) w := by
  unfold CloRet cloV; rw [h]; subst hn; exact ⟨rfl, rfl⟩
theorem clo_no {close : UInt8} {s : ByteArray} {w : World} (h : cloX close s = none) : CloRet close s w (.returned (.tuple #[.int .i64 s.size, .bool false])) w := by
  unfold CloRet cloV; rw [h]; exact ⟨rfl, rfl⟩
theorem u8n {a b : UInt8} (h : a ≠ b) : ((a.toNat : Int) == (b.toNat : Int)) = false := by rw [u8_beq, decide_eq_false h]
theorem u8y {a b : UInt8} (h : a = b) : ((a.toNat : Int) == (b.toNat : Int)) = true := by rw [u8_beq, decide_eq_true h]
theorem u8k {a : UInt8} (n : Nat) (hn : n < 256) : ((a.toNat : Int) == (n : Int)) = decide (a = UInt8.ofNat n) := by
  have := u8_beq a (UInt8.ofNat n)
  rw [show ((UInt8.ofNat n).toNat : Int) = (n : Int) by simp; omega] at this
  exact this
set_option maxHeartbeats 4000000 in
set_option maxRecDepth 100000 in
theorem closed_any (s : ByteArray) (close : UInt8) (w : World) (hs : s.size ≤ 100000000) : Calls Tryz.prog 77 #[.string s, .int .u8 close.toNat] w (CloRet close s w) := by
  go_enter Tryz.func77, Tryz.ntmps77
  go_wp2
  go_loop [6, 7] (fun dv iv => ∃ (k d : Nat), iv = .int .i64 k ∧ dv = .int .i64 d ∧ 1 ≤ k ∧ k ≤ s.size + 1 ∧ 1 ≤ d ∧ d ≤ k ∧ Hid (CloIs close d k s)) (fun _ iv => s.size + 1 - (intOf iv).toNat)
  case atStart => exact ⟨1, 1, rfl, rfl, by omega, by omega, by omega, by omega, rfl⟩
  case round =>
    obtain ⟨k, d, rfl, rfl, hk1, hk, hd1, hdk, hrel⟩ := hrel
    by_cases hlt : k < s.size
    · obtain ⟨s1, s2, s3, s4, s5⟩ := clo_step hrel.out hlt
      have qa : ((s[k].toNat : Int) == 92) = decide (s[k] = 92) := u8k 92 (by decide)
      have qb : ((s[k].toNat : Int) == (close.toNat : Int)) = decide (s[k] = close) := u8_beq _ _
      have qc : ((s[k].toNat : Int) == 40) = decide (s[k] = 40) := u8k 40 (by decide)
      have qd : ((close.toNat : Int) == 41) = decide (close = 41) := u8k 41 (by decide)
      by_cases h92 : s[k] = 92
      · have H := Lib.hid (s1 h92)
        rw [decide_eq_true h92] at qa
        have q0 : ((d : Int) == 0) = false := beq_eq_false_iff_ne.2 (by omega)
        clear s1 s2 s3 s4 s5 hrel qb qc qd h92
        go_wp2
        go_round
        case rel => exact ⟨k + 1 + 1, d, by go_num, rfl, by omega, by omega, by omega, by omega, H⟩
        case measure => simp [intOf]; omega
      · rw [decide_eq_false h92] at qa
        by_cases hcl : s[k] = close
        · rw [decide_eq_true hcl] at qb
          by_cases h1 : d = 1
          · have H := Lib.hid (s2 h92 hcl h1)
            clear s1 s2 s3 s4 s5 hrel qc qd h92 hcl
            subst h1
            go_wp2
            go_ret2
            exact clo_yes H.out rfl
          · have H := Lib.hid (s3 h92 hcl h1)
            have q0 : ((d : Int) - 1 == 0) = false := beq_eq_false_iff_ne.2 (by omega)
            clear s1 s2 s3 s4 s5 hrel qc qd h92 hcl
            go_wp2
            go_round
            case rel => exact ⟨k + 1, d - 1, by go_num, by rw [show ((d - 1 : Nat) : Int) = (d : Int) - 1 by omega], by omega, by omega, by omega, by omega, H⟩
            case measure => simp [intOf]; omega
        · rw [decide_eq_false hcl] at qb
          have q0 : ((d : Int) == 0) = false := beq_eq_false_iff_ne.2 (by omega)
          by_cases h40 : s[k] = 40
          · rw [decide_eq_true h40] at qc
            by_cases h41 : close = 41
            · rw [decide_eq_true h41] at qd
              have H := Lib.hid (s4 h92 hcl h40 h41)
              have q2 : ((d : Int) + 1 == 0) = false := beq_eq_false_iff_ne.2 (by omega)
              clear s1 s2 s3 s4 s5 hrel h92 hcl h40 h41
              go_wp2
              go_round
              case rel => exact ⟨k + 1, d + 1, by go_num, by go_num, by omega, by omega, by omega, by omega, H⟩
              case measure => simp [intOf]; omega
            · rw [decide_eq_false h41] at qd
              have H := Lib.hid (s5 h92 hcl (.inr h41))
              clear s1 s2 s3 s4 s5 hrel h92 hcl h40 h41
              go_wp2
              go_round
              case rel => exact ⟨k + 1, d, by go_num, rfl, by omega, by omega, by omega, by omega, H⟩
              case measure => simp [intOf]; omega
          · rw [decide_eq_false h40] at qc
            have H := Lib.hid (s5 h92 hcl (.inl h40))
            clear s1 s2 s3 s4 s5 hrel h92 hcl h40 qd
            go_wp2
            go_round
            case rel => exact ⟨k + 1, d, by go_num, rfl, by omega, by omega, by omega, by omega, H⟩
            case measure => simp [intOf]; omega
    · have H := Lib.hid (clo_no (w := w) (clo_end hrel.out hlt))
      clear hrel
      go_wp2
      go_ret2
      exact H.out
end Go.Proofs.YtilccofdphohiaaGreatDoor
