/- Walks: lex: digit, letter, span, identifier, lower, space. -/
import Derived.Test.YtgimgkjggaijoaaGreatDoorLxQ
import Derived.Test.YtgimgkjggaijoaaGreatDoorStrK
import Derived.Test.YtgimgkjggaijoaaGreatDoorShelf
import Derived.Test.YtgimgkjggaijoaaGreatDoorRows
import Derived.WalkSmall
import Derived.Deep.DeepCutAuto
import Derived.Deep.LoopGhost
namespace Go.Proofs.YtgimgkjggaijoaaGreatDoor
open Go.RowKit Pk Lx

def toB (l : List UInt8) : ByteArray := ⟨l.toArray⟩
theorem toB_data (l : List UInt8) : (toB l).data.toList = l := by simp [toB]
theorem toB_size (l : List UInt8) : (toB l).size = l.length := by simp [toB, ByteArray.size]
theorem toB_back (s : ByteArray) : toB s.data.toList = s := by unfold toB; simp
theorem u8k {a : UInt8} (n : Nat) (hn : n < 256) : ((a.toNat : Int) == (n : Int)) = decide (a = UInt8.ofNat n) := by
  have := u8_beq a (UInt8.ofNat n)
  rw [show ((UInt8.ofNat n).toNat : Int) = (n : Int) by simp; omega] at this
  exact this
theorem data_cons (s : ByteArray) (h : 0 < s.size) : s.data.toList = s[0] :: tl s 1 := by rw [← tl_zero s, tl_cons s 0 h]
set_option maxRecDepth 100000 in
theorem digit_any (c : UInt8) (w : World) : Calls Tryz.prog 42 #[.int .u8 c.toNat] w fun e w' => e = .returned (.bool (isDig c)) ∧ w = w' := by
  have hc := c.toNat_lt
  unfold isDig
  by_cases h1 : 48 ≤ c.toNat
  · by_cases h2 : c.toNat ≤ 57
    · rw [decide_eq_true (⟨h1, h2⟩ : 48 ≤ c.toNat ∧ c.toNat ≤ 57)]
      have q1 : decide ((c.toNat : Int) ≤ 57) = true := decide_eq_true (by omega)
      go_enter Tryz.func42, Tryz.ntmps42
      go_wp2
      go_ret
      exact ⟨rfl, rfl⟩
    · rw [decide_eq_false (by omega : ¬ (48 ≤ c.toNat ∧ c.toNat ≤ 57))]
      have q1 : decide ((c.toNat : Int) ≤ 57) = false := decide_eq_false (by omega)
      go_enter Tryz.func42, Tryz.ntmps42
      go_wp2
      go_ret
      exact ⟨rfl, rfl⟩
  · rw [decide_eq_false (by omega : ¬ (48 ≤ c.toNat ∧ c.toNat ≤ 57))]
    go_enter Tryz.func42, Tryz.ntmps42
    go_wp2
    go_ret
    exact ⟨rfl, rfl⟩
set_option maxRecDepth 100000 in
theorem letter_any (c : UInt8) (w : World) : Calls Tryz.prog 72 #[.int .u8 c.toNat] w fun e w' => e = .returned (.bool (isLet c)) ∧ w = w' := by
  have hc := c.toNat_lt
  obtain ⟨b, hb⟩ : ∃ b, b = isLet c := ⟨_, rfl⟩
  rw [← hb]
  unfold isLet at hb
  by_cases h1 : 97 ≤ c.toNat
  · by_cases h2 : c.toNat ≤ 122
    · obtain rfl : b = true := by rw [hb]; exact decide_eq_true (by omega)
      clear hb
      go_enter Tryz.func72, Tryz.ntmps72
      go_wp2
      go_ret
      exact ⟨rfl, rfl⟩
    · obtain rfl : b = false := by rw [hb]; exact decide_eq_false (by omega)
      have q1 : ((c.toNat : Int) == 95) = false := beq_eq_false_iff_ne.2 (by omega)
      have q2 : decide ((c.toNat : Int) ≤ 122) = false := decide_eq_false (by omega)
      have q3 : decide ((c.toNat : Int) ≤ 90) = false := decide_eq_false (by omega)
      clear hb
      go_enter Tryz.func72, Tryz.ntmps72
      go_wp2
      go_ret
      exact ⟨rfl, rfl⟩
  · by_cases h2 : 65 ≤ c.toNat
    · by_cases h3 : c.toNat ≤ 90
      · obtain rfl : b = true := by rw [hb]; exact decide_eq_true (by omega)
        clear hb
        go_enter Tryz.func72, Tryz.ntmps72
        go_wp2
        go_ret
        exact ⟨rfl, rfl⟩
      · by_cases h4 : c.toNat = 95
        · obtain rfl : b = true := by rw [hb]; exact decide_eq_true (by omega)
          have q1 : ((c.toNat : Int) == 95) = true := beq_iff_eq.2 (by omega)
          have q3 : decide ((c.toNat : Int) ≤ 90) = false := decide_eq_false (by omega)
          clear hb h4
          go_enter Tryz.func72, Tryz.ntmps72
          go_wp2
          go_ret
          exact ⟨rfl, rfl⟩
        · obtain rfl : b = false := by rw [hb]; exact decide_eq_false (by omega)
          have q1 : ((c.toNat : Int) == 95) = false := beq_eq_false_iff_ne.2 (by omega)
          have q3 : decide ((c.toNat : Int) ≤ 90) = false := decide_eq_false (by omega)
          clear hb h4
          go_enter Tryz.func72, Tryz.ntmps72
          go_wp2
          go_ret
          exact ⟨rfl, rfl⟩
    · obtain rfl : b = false := by rw [hb]; exact decide_eq_false (by omega)
      have q1 : ((c.toNat : Int) == 95) = false := beq_eq_false_iff_ne.2 (by omega)
      clear hb
      go_enter Tryz.func72, Tryz.ntmps72
      go_wp2
      go_ret
      exact ⟨rfl, rfl⟩
set_option maxRecDepth 100000 in
theorem word_any (c : UInt8) (w : World) : Calls Tryz.prog 74 #[.int .u8 c.toNat] w fun e w' => e = .returned (.bool (isWd c)) ∧ w = w' := by
  have HL := Lib.hid (letter_any c)
  have HD := Lib.hid (digit_any c)
  unfold isWd
  generalize isLet c = a at *
  generalize isDig c = b at *
  cases a
  · go_enter Tryz.func74, Tryz.ntmps74
    go_wp2_with (first
      | (go_at_call 72; (with_reducible refine (HL.out _).mono ?_); rintro e w1 ⟨rfl, rfl⟩)
      | (go_at_call 42; (with_reducible refine (HD.out _).mono ?_); rintro e w1 ⟨rfl, rfl⟩))
    go_ret
    exact ⟨by rw [Bool.false_or]; rfl, rfl⟩
  · go_enter Tryz.func74, Tryz.ntmps74
    go_wp2_with (go_at_call 72; (with_reducible refine (HL.out _).mono ?_); rintro e w1 ⟨rfl, rfl⟩)
    go_ret
    exact ⟨by rw [Bool.true_or]; rfl, rfl⟩
set_option maxRecDepth 100000 in
theorem blankL_any (c : UInt8) (w : World) : Calls Tryz.prog 75 #[.int .u8 c.toNat] w fun e w' => e = .returned (.bool (isBl c)) ∧ w = w' := by
  have hb : isBl c = (((c.toNat : Int) == 32) || ((c.toNat : Int) == 9)) := by
    have e : ∀ n : Nat, n < 256 → isBl (UInt8.ofNat n) = (((n : Int) == 32) || ((n : Int) == 9)) := by decide +kernel
    have := e c.toNat c.toNat_lt
    simpa using this
  rw [hb]
  clear hb
  cases h1 : ((c.toNat : Int) == 32)
  · go_enter Tryz.func75, Tryz.ntmps75
    go_wp2
    go_ret
    exact ⟨by rw [Bool.false_or]; rfl, rfl⟩
  · go_enter Tryz.func75, Tryz.ntmps75
    go_wp2
    go_ret
    exact ⟨rfl, rfl⟩
/-- the first k bytes all satisfy p -/
def SpanAt (p : UInt8 → Bool) (s : ByteArray) (k : Nat) : Prop := k + spanL p (tl s k) = spanL p s.data.toList
theorem span_step {p : UInt8 → Bool} {s : ByteArray} {k : Nat} (h : SpanAt p s k) (hk : k < s.size) : (p s[k] = true → SpanAt p s (k + 1)) ∧ (p s[k] = false → spanL p s.data.toList = k) := by
  unfold SpanAt at *
  rw [tl_cons s k hk] at h
  unfold spanL at h
  refine ⟨fun h1 => ?_, fun h1 => ?_⟩
  · rw [if_pos h1] at h
    show k + 1 + spanL p (tl s (k + 1)) = spanL p s.data.toList
    conv => rhs; unfold spanL
    omega
  · rw [if_neg (by rw [h1]; decide)] at h
    conv => lhs; unfold spanL
    omega
theorem span_end {p : UInt8 → Bool} {s : ByteArray} {k : Nat} (h : SpanAt p s k) (hk : ¬ k < s.size) : spanL p s.data.toList = k := by
  unfold SpanAt at h
  rw [tl_end s k (by omega)] at h
  have e : spanL p [] = 0 := rfl
  omega
def IntRet (n : Nat) (w : World) (e : Ending) (w' : World) : Prop := e = .returned (.int .i64 (n : Nat)) ∧ w = w'
set_option maxHeartbeats 1000000 in
set_option maxRecDepth 100000 in
theorem span_dig (s : ByteArray) (w : World) (hs : s.size ≤ 100000000) : Calls Tryz.prog 73 #[.string s, .func (.func 42) #[] #[]] w (IntRet (spanL isDig s.data.toList) w) := by
  have HF := Lib.hid digit_any
  go_enter Tryz.func73, Tryz.ntmps73
  go_wp2
  go_loop [5] (fun iv => ∃ k : Nat, k ≤ s.size ∧ iv = .int .i64 k ∧ Hid (SpanAt isDig s k)) (fun iv => s.size - (intOf iv).toNat)
  case atStart => exact ⟨0, by omega, rfl, show 0 + _ = _ by rw [tl_zero, Nat.zero_add]⟩
  case round =>
    obtain ⟨k, hk, rfl, hrel⟩ := hrel
    by_cases hlt : k < s.size
    · obtain ⟨s1, s2⟩ := span_step hrel.out hlt
      have hF := HF.out s[k]
      cases hp : isDig s[k] with
      | true =>
        rw [hp] at hF
        have HG := Lib.hid hF
        have hn := Lib.hid (s1 hp)
        clear s1 s2 hrel hp hF HF
        go_wp2_with (go_at_call 42; (with_reducible refine (HG.out _).mono ?_); rintro e w1 ⟨rfl, rfl⟩)
        go_round
        case rel => exact ⟨k + 1, by omega, by go_num, hn⟩
        case measure => simp [intOf]; omega
      | false =>
        rw [hp] at hF
        have HG := Lib.hid hF
        have hn := Lib.hid (s2 hp)
        clear s1 s2 hrel hp hF HF
        go_wp2_with (go_at_call 42; (with_reducible refine (HG.out _).mono ?_); rintro e w1 ⟨rfl, rfl⟩)
        go_ret
        exact ⟨by rw [hn.out]; rfl, rfl⟩
    · have hn := Lib.hid (span_end hrel.out hlt)
      clear hrel
      go_wp2
      go_ret
      exact ⟨by rw [hn.out]; rfl, rfl⟩
set_option maxHeartbeats 1000000 in
set_option maxRecDepth 100000 in
theorem span_word (s : ByteArray) (w : World) (hs : s.size ≤ 100000000) : Calls Tryz.prog 73 #[.string s, .func (.func 74) #[] #[]] w (IntRet (spanL isWd s.data.toList) w) := by
  have HF := Lib.hid word_any
  go_enter Tryz.func73, Tryz.ntmps73
  go_wp2
  go_loop [5] (fun iv => ∃ k : Nat, k ≤ s.size ∧ iv = .int .i64 k ∧ Hid (SpanAt isWd s k)) (fun iv => s.size - (intOf iv).toNat)
  case atStart => exact ⟨0, by omega, rfl, show 0 + _ = _ by rw [tl_zero, Nat.zero_add]⟩
  case round =>
    obtain ⟨k, hk, rfl, hrel⟩ := hrel
    by_cases hlt : k < s.size
    · obtain ⟨s1, s2⟩ := span_step hrel.out hlt
      have hF := HF.out s[k]
      cases hp : isWd s[k] with
      | true =>
        rw [hp] at hF
        have HG := Lib.hid hF
        have hn := Lib.hid (s1 hp)
        clear s1 s2 hrel hp hF HF
        go_wp2_with (go_at_call 74; (with_reducible refine (HG.out _).mono ?_); rintro e w1 ⟨rfl, rfl⟩)
        go_round
        case rel => exact ⟨k + 1, by omega, by go_num, hn⟩
        case measure => simp [intOf]; omega
      | false =>
        rw [hp] at hF
        have HG := Lib.hid hF
        have hn := Lib.hid (s2 hp)
        clear s1 s2 hrel hp hF HF
        go_wp2_with (go_at_call 74; (with_reducible refine (HG.out _).mono ?_); rintro e w1 ⟨rfl, rfl⟩)
        go_ret
        exact ⟨by rw [hn.out]; rfl, rfl⟩
    · have hn := Lib.hid (span_end hrel.out hlt)
      clear hrel
      go_wp2
      go_ret
      exact ⟨by rw [hn.out]; rfl, rfl⟩
set_option maxHeartbeats 1000000 in
set_option maxRecDepth 100000 in
theorem span_blank (s : ByteArray) (w : World) (hs : s.size ≤ 100000000) : Calls Tryz.prog 73 #[.string s, .func (.func 75) #[] #[]] w (IntRet (spanL isBl s.data.toList) w) := by
  have HF := Lib.hid blankL_any
  go_enter Tryz.func73, Tryz.ntmps73
  go_wp2
  go_loop [5] (fun iv => ∃ k : Nat, k ≤ s.size ∧ iv = .int .i64 k ∧ Hid (SpanAt isBl s k)) (fun iv => s.size - (intOf iv).toNat)
  case atStart => exact ⟨0, by omega, rfl, show 0 + _ = _ by rw [tl_zero, Nat.zero_add]⟩
  case round =>
    obtain ⟨k, hk, rfl, hrel⟩ := hrel
    by_cases hlt : k < s.size
    · obtain ⟨s1, s2⟩ := span_step hrel.out hlt
      have hF := HF.out s[k]
      cases hp : isBl s[k] with
      | true =>
        rw [hp] at hF
        have HG := Lib.hid hF
        have hn := Lib.hid (s1 hp)
        clear s1 s2 hrel hp hF HF
        go_wp2_with (go_at_call 75; (with_reducible refine (HG.out _).mono ?_); rintro e w1 ⟨rfl, rfl⟩)
        go_round
        case rel => exact ⟨k + 1, by omega, by go_num, hn⟩
        case measure => simp [intOf]; omega
      | false =>
        rw [hp] at hF
        have HG := Lib.hid hF
        have hn := Lib.hid (s2 hp)
        clear s1 s2 hrel hp hF HF
        go_wp2_with (go_at_call 75; (with_reducible refine (HG.out _).mono ?_); rintro e w1 ⟨rfl, rfl⟩)
        go_ret
        exact ⟨by rw [hn.out]; rfl, rfl⟩
    · have hn := Lib.hid (span_end hrel.out hlt)
      clear hrel
      go_wp2
      go_ret
      exact ⟨by rw [hn.out]; rfl, rfl⟩
theorem identL_span (c : UInt8) (r : List UInt8) (h : isLet c = true) : identL (c :: r) = spanL isWd (c :: r) := by
  rw [identL_cons, if_pos h]
  conv => rhs; unfold spanL
  rw [if_pos (by unfold isWd; rw [h]; rfl)]
set_option maxHeartbeats 1000000 in
set_option maxRecDepth 100000 in
theorem ident_any (s : ByteArray) (w : World) (hs : s.size ≤ 100000000) : Calls Tryz.prog 39 #[.string s] w (IntRet (identL s.data.toList) w) := by
  by_cases h0 : 0 < s.size
  · have hL := letter_any s[0]
    have hS := fun w => span_word s w hs
    have hd := data_cons s h0
    have hne := neS h0
    have e : identL s.data.toList = if isLet s[0] = true then spanL isWd s.data.toList else 0 := by
      rw [hd]
      by_cases h : isLet s[0] = true
      · rw [if_pos h, identL_span _ _ h]
      · rw [if_neg h, identL_cons, if_neg h]
    rw [e]
    clear e hd
    generalize spanL isWd s.data.toList = n at *
    cases hl : isLet s[0] with
    | true =>
      rw [hl] at hL
      have HL := Lib.hid hL
      have HS := Lib.hid hS
      rw [if_pos rfl]
      clear hL hS hl
      go_enter Tryz.func39, Tryz.ntmps39
      go_wp2_with (first
        | (go_at_call 72; (with_reducible refine (HL.out _).mono ?_); rintro e w1 ⟨rfl, rfl⟩)
        | (go_at_call 73; (with_reducible refine (HS.out _).mono ?_); rintro e w1 ⟨rfl, rfl⟩))
      go_ret
      exact ⟨rfl, rfl⟩
    | false =>
      rw [hl] at hL
      have HL := Lib.hid hL
      rw [if_neg (by decide)]
      clear hL hS hl
      go_enter Tryz.func39, Tryz.ntmps39
      go_wp2_with (go_at_call 72; (with_reducible refine (HL.out _).mono ?_); rintro e w1 ⟨rfl, rfl⟩)
      go_ret
      exact ⟨rfl, rfl⟩
  · have hn := nilS (S := s) (by omega)
    have : s.data.toList = [] := by rw [← Lib.toList_data]; exact hn
    rw [this]
    clear this
    go_enter Tryz.func39, Tryz.ntmps39
    go_wp2
    go_ret
    exact ⟨rfl, rfl⟩
end Go.Proofs.YtgimgkjggaijoaaGreatDoor
