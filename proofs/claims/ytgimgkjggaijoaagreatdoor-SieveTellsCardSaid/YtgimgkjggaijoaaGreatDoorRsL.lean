/- Walks: the reference's lexer: digit, letter, has, Name, Passed. Walks: the reference's lexer: Passed (white space and comments). Walks: the reference's lines: Split, Bare. Walks: the reference's lines: Unstuff; the lexer's Lines. Walks: the reference's lexer: Quoted, Number. -/
import Derived.Test.YtgimgkjggaijoaaGreatDoorLxK
import Derived.Test.YtgimgkjggaijoaaGreatDoorLxO
namespace Go.Proofs.YtgimgkjggaijoaaGreatDoor
open Go.RowKit Pk Lx

set_option maxRecDepth 100000 in
theorem digitQ_any (c : UInt8) (w : World) : Calls Tryz.prog 93 #[.int .u8 c.toNat] w fun e w' => e = .returned (.bool (isDig c)) ∧ w = w' := by
  have hc := c.toNat_lt
  unfold isDig
  by_cases h1 : 48 ≤ c.toNat
  · by_cases h2 : c.toNat ≤ 57
    · rw [decide_eq_true (⟨h1, h2⟩ : 48 ≤ c.toNat ∧ c.toNat ≤ 57)]
      have q1 : decide ((c.toNat : Int) ≤ 57) = true := decide_eq_true (by omega)
      go_enter Tryz.func93, Tryz.ntmps93
      go_wp2
      go_ret
      exact ⟨rfl, rfl⟩
    · rw [decide_eq_false (by omega : ¬ (48 ≤ c.toNat ∧ c.toNat ≤ 57))]
      have q1 : decide ((c.toNat : Int) ≤ 57) = false := decide_eq_false (by omega)
      go_enter Tryz.func93, Tryz.ntmps93
      go_wp2
      go_ret
      exact ⟨rfl, rfl⟩
  · rw [decide_eq_false (by omega : ¬ (48 ≤ c.toNat ∧ c.toNat ≤ 57))]
    go_enter Tryz.func93, Tryz.ntmps93
    go_wp2
    go_ret
    exact ⟨rfl, rfl⟩
set_option maxRecDepth 100000 in
theorem letterQ_any (c : UInt8) (w : World) : Calls Tryz.prog 124 #[.int .u8 c.toNat] w fun e w' => e = .returned (.bool (isLet c)) ∧ w = w' := by
  have hc := c.toNat_lt
  obtain ⟨b, hb⟩ : ∃ b, b = isLet c := ⟨_, rfl⟩
  rw [← hb]
  unfold isLet at hb
  by_cases h1 : 97 ≤ c.toNat
  · by_cases h2 : c.toNat ≤ 122
    · obtain rfl : b = true := by rw [hb]; exact decide_eq_true (by omega)
      clear hb
      go_enter Tryz.func124, Tryz.ntmps124
      go_wp2
      go_ret
      exact ⟨rfl, rfl⟩
    · obtain rfl : b = false := by rw [hb]; exact decide_eq_false (by omega)
      have q1 : ((c.toNat : Int) == 95) = false := beq_eq_false_iff_ne.2 (by omega)
      have q2 : decide ((c.toNat : Int) ≤ 122) = false := decide_eq_false (by omega)
      have q3 : decide ((c.toNat : Int) ≤ 90) = false := decide_eq_false (by omega)
      clear hb
      go_enter Tryz.func124, Tryz.ntmps124
      go_wp2
      go_ret
      exact ⟨rfl, rfl⟩
  · by_cases h2 : 65 ≤ c.toNat
    · by_cases h3 : c.toNat ≤ 90
      · obtain rfl : b = true := by rw [hb]; exact decide_eq_true (by omega)
        clear hb
        go_enter Tryz.func124, Tryz.ntmps124
        go_wp2
        go_ret
        exact ⟨rfl, rfl⟩
      · by_cases h4 : c.toNat = 95
        · obtain rfl : b = true := by rw [hb]; exact decide_eq_true (by omega)
          have q1 : ((c.toNat : Int) == 95) = true := beq_iff_eq.2 (by omega)
          have q3 : decide ((c.toNat : Int) ≤ 90) = false := decide_eq_false (by omega)
          clear hb h4
          go_enter Tryz.func124, Tryz.ntmps124
          go_wp2
          go_ret
          exact ⟨rfl, rfl⟩
        · obtain rfl : b = false := by rw [hb]; exact decide_eq_false (by omega)
          have q1 : ((c.toNat : Int) == 95) = false := beq_eq_false_iff_ne.2 (by omega)
          have q3 : decide ((c.toNat : Int) ≤ 90) = false := decide_eq_false (by omega)
          clear hb h4
          go_enter Tryz.func124, Tryz.ntmps124
          go_wp2
          go_ret
          exact ⟨rfl, rfl⟩
    · obtain rfl : b = false := by rw [hb]; exact decide_eq_false (by omega)
      have q1 : ((c.toNat : Int) == 95) = false := beq_eq_false_iff_ne.2 (by omega)
      clear hb
      go_enter Tryz.func124, Tryz.ntmps124
      go_wp2
      go_ret
      exact ⟨rfl, rfl⟩
/-- does a text begin with this -/
def hasL (x l : List UInt8) : Bool := x.isPrefixOf l
theorem tl_take (s : ByteArray) (a n : Nat) (h : a + n ≤ s.size) : (s.extract a (a + n)).data.toList = (tl s a).take n := by
  unfold tl
  rw [ByteArray.data_extract, Array.toList_extract, List.extract_eq_take_drop]
  congr 1
  omega
theorem hasL_take (x l : List UInt8) (h : x.length ≤ l.length) : hasL x l = (l.take x.length == x) := by
  unfold hasL
  rw [Bool.eq_iff_iff, List.isPrefixOf_iff_prefix, beq_iff_eq, List.prefix_iff_eq_take]
  exact ⟨fun h => h.symm, fun h => h.symm⟩
theorem hasL_long (x l : List UInt8) (h : l.length < x.length) : hasL x l = false := by
  unfold hasL
  rw [Bool.eq_false_iff]
  intro hp
  have := (List.isPrefixOf_iff_prefix.1 hp).length_le
  omega
theorem tl_length (s : ByteArray) (a : Nat) : (tl s a).length = s.size - a := by
  unfold tl
  rw [List.length_drop]
  rfl
set_option maxRecDepth 100000 in
theorem has_any (s X : ByteArray) (a : Nat) (w : World) (hs : s.size ≤ 10000000) (hx : X.size ≤ 1000) (hx0 : 0 < X.size) (ha : a ≤ 20000000) : Calls Tryz.prog 89 #[.string s, .int .i64 a, .string X] w fun e w' => e = .returned (.bool (hasL X.data.toList (tl s a))) ∧ w = w' := by
  have hxl : X.data.toList.length = X.size := Array.length_toList
  have hw : IntKind.i64.wrap ((a : Int) + (X.size : Int)) = (a : Int) + (X.size : Int) := w64 rfl (by omega) (by omega)
  by_cases h : a + X.size ≤ s.size
  · have k1 : decide ((a : Int) + (X.size : Int) ≤ (s.size : Int)) = true := decide_eq_true (by omega)
    have e1 := tl_take s a X.size h
    have hh : hasL X.data.toList (tl s a) = ((s.extract a (a + X.size)).toList == X.toList) := by
      rw [hasL_take _ _ (by rw [hxl, tl_length]; omega), hxl, Lib.toList_data, Lib.toList_data, e1]
    rw [hh]
    have z1 : (0 : Int) ≤ (a : Int) := by omega
    have z2 : (a : Int) ≤ (a : Int) + (X.size : Int) := by omega
    have z3 : (a : Int) + (X.size : Int) ≤ (s.size : Int) := by omega
    have z4 : ((a : Int) + (X.size : Int)).toNat = a + X.size := by omega
    clear e1 hh hxl
    go_enter Tryz.func89, Tryz.ntmps89
    go_wp2
    go_ret
    exact ⟨rfl, rfl⟩
  · have k1 : decide ((a : Int) + (X.size : Int) ≤ (s.size : Int)) = false := decide_eq_false (by omega)
    rw [hasL_long _ _ (by rw [hxl, tl_length]; omega)]
    clear hxl
    go_enter Tryz.func89, Tryz.ntmps89
    go_wp2
    go_ret
    exact ⟨rfl, rfl⟩
/-- how far a name is read -/
def NameTo (s : ByteArray) (a k : Nat) : Prop := (k = 0 ∧ True) ∧ True ∨ (0 < k ∧ a + k ≤ s.size ∧ k + spanL isWd (tl s (a + k)) = identL (tl s a))
theorem nameTo_zero {s : ByteArray} {a : Nat} (h : a < s.size) : (isLet s[a] = true → NameTo s a 1) ∧ (isLet s[a] = false → identL (tl s a) = 0) := by
  refine ⟨fun h1 => .inr ⟨by decide, by omega, ?_⟩, fun h1 => ?_⟩
  · rw [tl_cons s a h, identL_cons, if_pos h1, Nat.add_comm]
  · rw [tl_cons s a h, identL_cons, if_neg (by rw [h1]; decide)]
theorem nameTo_step {s : ByteArray} {a k : Nat} (h : NameTo s a k) (h0 : 0 < k) (hk : a + k < s.size) : (isWd s[a + k] = true → NameTo s a (k + 1)) ∧ (isWd s[a + k] = false → identL (tl s a) = k) := by
  rcases h with h | ⟨h1, h2, h3⟩
  · exact absurd h.1.1 (by omega)
  · rw [tl_cons s (a + k) hk] at h3
    unfold spanL at h3
    refine ⟨fun h4 => .inr ⟨by omega, by omega, ?_⟩, fun h4 => ?_⟩
    · rw [if_pos h4] at h3
      rw [← Nat.add_assoc]
      omega
    · rw [if_neg (by rw [h4]; decide)] at h3
      omega
theorem nameTo_end {s : ByteArray} {a k : Nat} (h : NameTo s a k) (h0 : 0 < k) (hk : ¬ a + k < s.size) : identL (tl s a) = k := by
  rcases h with h | ⟨h1, h2, h3⟩
  · exact absurd h.1.1 (by omega)
  · rw [tl_end s (a + k) (by omega)] at h3
    have e : spanL isWd [] = 0 := rfl
    omega
set_option maxHeartbeats 4000000 in
set_option maxRecDepth 100000 in
theorem nameQ_any (s : ByteArray) (a : Nat) (w : World) (hs : s.size ≤ 10000000) (ha : a ≤ s.size) : Calls Tryz.prog 90 #[.string s, .int .i64 a] w fun e w' => e = .returned (.int .i64 ((a + identL (tl s a) : Nat) : Int)) ∧ w = w' := by
  have HL := Lib.hid (fun c w1 => letterQ_any c w1)
  have HD := Lib.hid (fun c w1 => digitQ_any c w1)
  go_enter Tryz.func90, Tryz.ntmps90
  go_wp2
  go_loop [5] (fun iv => ∃ k : Nat, iv = .int .i64 ((a + k : Nat) : Int) ∧ a + k ≤ s.size ∧ Hid (NameTo s a k)) (fun iv => s.size - (intOf iv).toNat)
  case atStart => exact ⟨0, by first | rfl | trivial, by omega, .inl ⟨⟨rfl, trivial⟩, trivial⟩⟩
  case round =>
    obtain ⟨k, rfl, hk, hrel⟩ := hrel
    by_cases hlt : a + k < s.size
    · have hlt2 : decide (((a + k : Nat) : Int) < (s.size : Int)) = true := decide_eq_true (by omega)
      by_cases h0 : k = 0
      · subst h0
        replace hlt : a < s.size := hlt
        replace hlt2 : decide (((a : Nat) : Int) < (s.size : Int)) = true := hlt2
        rw [Nat.add_zero]
        have hL := HL.out s[a]
        obtain ⟨s1, s2⟩ := nameTo_zero (s := s) (a := a) hlt
        have hgt : decide (((a : Nat) : Int) < (a : Int)) = false := decide_eq_false (by omega)
        cases hl : isLet s[a] with
        | true =>
          have hn := Lib.hid (s1 hl)
          rw [hl] at hL
          have HG := Lib.hid hL
          clear s1 s2 hrel hL hl
          go_wp2_with (go_at_call 124; (with_reducible refine (HG.out _).mono ?_); rintro e w1 ⟨rfl, rfl⟩)
          go_round
          case rel => exact ⟨1, by go_num, by omega, hn⟩
          case measure => simp [intOf]; omega
        | false =>
          have hn := Lib.hid (s2 hl)
          rw [hl] at hL
          have HG := Lib.hid hL
          clear s1 s2 hrel hL hl
          go_wp2_with (go_at_call 124; (with_reducible refine (HG.out _).mono ?_); rintro e w1 ⟨rfl, rfl⟩)
          go_ret
          exact ⟨by rw [hn.out]; rfl, rfl⟩
      · have hL := HL.out s[a + k]
        have hD := HD.out s[a + k]
        obtain ⟨s1, s2⟩ := nameTo_step hrel.out (by omega) hlt
        have hgt : decide ((a : Int) < ((a + k : Nat) : Int)) = true := decide_eq_true (by omega)
        cases hl : isLet s[a + k] with
        | true =>
          have hn := Lib.hid (s1 (by unfold isWd; rw [hl]; rfl))
          rw [hl] at hL
          have HG := Lib.hid hL
          clear s1 s2 hrel hL hD hl
          go_wp2_with (go_at_call 124; (with_reducible refine (HG.out _).mono ?_); rintro e w1 ⟨rfl, rfl⟩)
          go_round
          case rel => exact ⟨k + 1, by go_num, by omega, hn⟩
          case measure => simp [intOf]; omega
        | false =>
          cases hd : isDig s[a + k] with
          | true =>
            have hn := Lib.hid (s1 (by unfold isWd; rw [hl, hd]; rfl))
            rw [hl] at hL
            rw [hd] at hD
            have HG := Lib.hid hL
            have HE := Lib.hid hD
            clear s1 s2 hrel hL hD hl hd
            go_wp2_with (first
            | (go_at_call 124; (with_reducible refine (HG.out _).mono ?_); rintro e w1 ⟨rfl, rfl⟩)
            | (go_at_call 93; (with_reducible refine (HE.out _).mono ?_); rintro e w1 ⟨rfl, rfl⟩))
            go_round
            case rel => exact ⟨k + 1, by go_num, by omega, hn⟩
            case measure => simp [intOf]; omega
          | false =>
            have hn := Lib.hid (s2 (by unfold isWd; rw [hl, hd]; rfl))
            rw [hl] at hL
            rw [hd] at hD
            have HG := Lib.hid hL
            have HE := Lib.hid hD
            clear s1 s2 hrel hL hD hl hd
            go_wp2_with (first
            | (go_at_call 124; (with_reducible refine (HG.out _).mono ?_); rintro e w1 ⟨rfl, rfl⟩)
            | (go_at_call 93; (with_reducible refine (HE.out _).mono ?_); rintro e w1 ⟨rfl, rfl⟩))
            go_ret
            exact ⟨by rw [hn.out]; rfl, rfl⟩
    · have hid : identL (tl s a) = k := by
        by_cases h0 : k = 0
        · subst h0
          rw [tl_end s a (by omega)]
          rfl
        · exact nameTo_end hrel.out (by omega) hlt
      have hn := Lib.hid hid
      have hlt2 : decide (((a + k : Nat) : Int) < (s.size : Int)) = false := decide_eq_false (by omega)
      clear hrel hid
      go_wp2
      go_ret
      exact ⟨by rw [hn.out]; rfl, rfl⟩
set_option maxHeartbeats 1000000 in
set_option maxRecDepth 100000 in
theorem lowerQ_any (s : ByteArray) (w : World) (hs : s.size ≤ 100000000) : Calls Tryz.prog 91 #[.string s] w fun e w' => e = .returned (.string (toB (lowL s.data.toList))) ∧ Below w.heap.size w w' := by
  obtain ⟨cp, w1, hcv, hrow, hb1, hz1⟩ := conv_row (P := Tryz.prog) w 9 68 5 s Tryz.underlying9 Tryz.underlying68 Tryz.underlying5
  rw [← mixX_zero] at hrow
  go_enter Tryz.func91, Tryz.ntmps91
  go_wp2
  go_loopw [4] (fun i wr => ∃ (k : Nat), i = .int .i64 k ∧ rowF wr w.heap.size 5 (mixX s k) ∧ Below w.heap.size w wr ∧ k ≤ s.size) (fun i _ => s.size - (intOf i).toNat)
  case atStart => exact ⟨0, by first | rfl | trivial, hrow, hb1, by omega⟩
  case round =>
    clear hrow hcv hb1 hz1
    obtain ⟨k, rfl, hrow, hbel, hk⟩ := hrel
    have hsz := hbel.size
    by_cases hlt : k < s.size
    · have hc := rowF_cell hrow k (by rw [mixX_length]; exact hlt)
      rw [mixX_at s k hlt] at hc
      have hf := rowF_frozen hrow k (by rw [mixX_length]; exact hlt)
      have hb := s[k].toNat_lt
      by_cases h1 : 65 ≤ s[k].toNat
      · by_cases h2 : s[k].toNat ≤ 90
        · have hrow2 := rowF_stored hrow k ((s[k].toNat : Int) + 32) (by omega) (by omega)
          rw [low_b8X h1 h2, mixX_step s k hlt] at hrow2
          have hbel2 : Below w.heap.size w (wr.setCell ⟨w.heap.size, k, none⟩ (.int .u8 ((s[k].toNat : Int) + 32))) := hbel.setCell (Nat.le_refl _) _
          clear hrow
          go_wp2
          go_roundw
          case rel => exact ⟨k + 1, by go_num, hrow2, hbel2, by omega⟩
          case measure => simp [intOf]; omega
        · rw [mixX_same s k hlt (by unfold lowC; rw [if_neg (by omega)])] at hrow
          go_wp2
          go_roundw
          case rel => exact ⟨k + 1, by go_num, hrow, hbel, by omega⟩
          case measure => simp [intOf]; omega
      · rw [mixX_same s k hlt (by unfold lowC; rw [if_neg (by omega)])] at hrow
        go_wp2
        go_roundw
        case rel => exact ⟨k + 1, by go_num, hrow, hbel, by omega⟩
        case measure => simp [intOf]; omega
    · obtain rfl : k = s.size := by omega
      have hcv := run_string_row (P := Tryz.prog) (ts := 9) (n := s.size) (cap := cp) bslX Tryz.underlying9 hrow (mixX_length _ _)
      rw [mixX_end] at hcv
      clear hrow
      go_wp2
      go_ret
      exact ⟨rfl, hbel⟩
end Go.Proofs.YtgimgkjggaijoaaGreatDoor
namespace Go.Proofs.YtgimgkjggaijoaaGreatDoor
open Go.RowKit Pk Lx

theorem lnL_span : ∀ l : List UInt8, lnL l = min (spanL noNl l + 1) l.length
  | [] => rfl
  | c :: r => by
    have ih := lnL_span r
    rw [lnL_cons, List.length_cons]
    unfold spanL noNl
    by_cases h : c = 10
    · rw [if_pos h, if_neg (by simp [h])]; omega
    · rw [if_neg h, if_pos (by simp [h])]
      have e : spanL (fun c => decide (c ≠ 10)) r = spanL noNl r := rfl
      rw [e]; omega
/-- the first k bytes behind the place a all satisfy p -/
def SpanFrom (p : UInt8 → Bool) (s : ByteArray) (a k : Nat) : Prop := a + k ≤ s.size ∧ k + spanL p (tl s (a + k)) = spanL p (tl s a)
theorem spanF_zero {p : UInt8 → Bool} {s : ByteArray} {a : Nat} (h : a ≤ s.size) : SpanFrom p s a 0 := ⟨h, by rw [Nat.add_zero, Nat.zero_add]⟩
theorem spanF_step {p : UInt8 → Bool} {s : ByteArray} {a k : Nat} (h : SpanFrom p s a k) (hk : a + k < s.size) : (p s[a + k] = true → SpanFrom p s a (k + 1)) ∧ (p s[a + k] = false → spanL p (tl s a) = k) := by
  obtain ⟨h1, h2⟩ := h
  rw [tl_cons s (a + k) hk] at h2
  unfold spanL at h2
  refine ⟨fun h4 => ⟨by omega, ?_⟩, fun h4 => ?_⟩
  · rw [if_pos h4] at h2
    show k + 1 + spanL p (tl s (a + k + 1)) = spanL p (tl s a)
    conv => rhs; unfold spanL
    omega
  · rw [if_neg (by rw [h4]; decide)] at h2
    conv => lhs; unfold spanL
    omega
theorem spanF_end {p : UInt8 → Bool} {s : ByteArray} {a k : Nat} (h : SpanFrom p s a k) (hk : ¬ a + k < s.size) : spanL p (tl s a) = k := by
  obtain ⟨h1, h2⟩ := h
  rw [tl_end s (a + k) (by omega)] at h2
  have e : spanL p [] = 0 := rfl
  omega
theorem hasL2 (x y c : UInt8) (r : List UInt8) : hasL [x, y] (c :: r) = decide (c = x ∧ r.head? = some y) := by
  unfold hasL
  rw [Bool.eq_iff_iff, List.isPrefixOf_iff_prefix, decide_eq_true_iff]
  cases r with
  | nil => simp
  | cons d t =>
    rw [List.cons_prefix_cons, List.cons_prefix_cons]
    simp only [List.nil_prefix, and_true, List.head?_cons, Option.some.injEq]
    exact ⟨fun h => ⟨h.1.symm, h.2.symm⟩, fun h => ⟨h.1.symm, h.2.symm⟩⟩
theorem hasL1 (x : UInt8) (l : List UInt8) : hasL [x] l = decide (l.head? = some x) := by
  unfold hasL
  rw [Bool.eq_iff_iff, List.isPrefixOf_iff_prefix, decide_eq_true_iff]
  cases l with
  | nil => simp
  | cons d t =>
    rw [List.cons_prefix_cons]
    simp only [List.nil_prefix, and_true, List.head?_cons, Option.some.injEq]
    exact ⟨fun h => h.symm, fun h => h.symm⟩
/-- no comment's end from the place a up to the place k -/
def CmAt (s : ByteArray) (a k : Nat) (X : Option Nat) : Prop := (cmL (tl s k)).map (fun n => k + n) = X.map fun n => a + n
theorem cmAt_zero (s : ByteArray) (a : Nat) : CmAt s a a (cmL (tl s a)) := rfl
theorem cmAt_step {s : ByteArray} {a k : Nat} {X : Option Nat} (h : CmAt s a k X) (hk : k < s.size) : (hasL [42, 47] (tl s k) = true → ∃ n, X = some n ∧ a + n = k) ∧ (hasL [42, 47] (tl s k) = false → CmAt s a (k + 1) X) := by
  unfold CmAt at *
  rw [tl_cons s k hk] at h ⊢
  rw [cmL_cons] at h
  rw [hasL2]
  refine ⟨fun h1 => ?_, fun h1 => ?_⟩
  · rw [if_pos (of_decide_eq_true h1)] at h
    cases X with
    | none => cases h
    | some n =>
      injection h with h
      have h3 : k + 0 = a + n := h
      exact ⟨n, rfl, by omega⟩
  · rw [if_neg (of_decide_eq_false h1)] at h
    rw [← h]
    cases cmL (tl s (k + 1)) with
    | none => rfl
    | some n => simp; omega
theorem cmAt_end {s : ByteArray} {a k : Nat} {X : Option Nat} (h : CmAt s a k X) (hk : ¬ k < s.size) : X = none := by
  unfold CmAt at h
  rw [tl_end s k (by omega)] at h
  cases X with
  | none => rfl
  | some n => cases h
def passI (o : Option Nat) (a : Nat) : Int := match o with | none => -1 | some n => ((a + n : Nat) : Int)
theorem passI_none {o : Option Nat} (a : Nat) (h : o = none) : passI o a = -1 := by rw [h]; rfl
theorem passI_some {o : Option Nat} {a n : Nat} {x : Int} (h : o = some n) (hx : x = (a : Int) + (n : Int)) : passI o a = x := by rw [h, hx]; rfl
def PassIs (o : Option Nat) (a : Nat) (w : World) (e : Ending) (w' : World) : Prop := e = .returned (.int .i64 (passI o a)) ∧ w = w'
set_option maxHeartbeats 4000000 in
set_option maxRecDepth 100000 in
theorem passQ_any (s : ByteArray) (a : Nat) (w : World) (hs : s.size ≤ 10000000) (h : a < s.size) : Calls Tryz.prog 49 #[.string s, .int .i64 a] w (PassIs (spaceL (tl s a)) a w) := by
  have hd := tl_cons s a h
  have hsp : spaceL (tl s a) = if isWs s[a] = true then some 1 else if s[a] = 35 then some (lnL (tl s a)) else if s[a] = 47 ∧ (tl s (a + 1)).head? = some 42 then (cmL (tl s (a + 2))).map (· + 4) else some 0 := by
    rw [hd, spaceL_cons]
    congr 3
    rw [show (tl s (a + 1)).tail = tl s (a + 2) by rw [← List.drop_one, tl_drop]]
  rw [hsp]
  by_cases w1 : isWs s[a] = true
  · rw [if_pos w1]
    unfold isWs at w1
    have w2 := of_decide_eq_true w1
    clear hsp hd w1
    rcases w2 with hc | hc | hc | hc
    · have q1 : ((s[a].toNat : Int) == 9) = false := (u8k 9 (by decide)).trans (decide_eq_false (by rw [hc]; decide))
      have q2 : ((s[a].toNat : Int) == 10) = false := (u8k 10 (by decide)).trans (decide_eq_false (by rw [hc]; decide))
      have q3 : ((s[a].toNat : Int) == 13) = false := (u8k 13 (by decide)).trans (decide_eq_false (by rw [hc]; decide))
      have q4 : ((s[a].toNat : Int) == 32) = true := (u8k 32 (by decide)).trans (decide_eq_true hc)
      clear hc
      go_enter Tryz.func49, Tryz.ntmps49
      go_wp2
      go_ret
      exact ⟨by rw [passI_some rfl rfl]; rfl, rfl⟩
    · have q1 : ((s[a].toNat : Int) == 9) = true := (u8k 9 (by decide)).trans (decide_eq_true hc)
      clear hc
      go_enter Tryz.func49, Tryz.ntmps49
      go_wp2
      go_ret
      exact ⟨by rw [passI_some rfl rfl]; rfl, rfl⟩
    · have q1 : ((s[a].toNat : Int) == 9) = false := (u8k 9 (by decide)).trans (decide_eq_false (by rw [hc]; decide))
      have q2 : ((s[a].toNat : Int) == 10) = false := (u8k 10 (by decide)).trans (decide_eq_false (by rw [hc]; decide))
      have q3 : ((s[a].toNat : Int) == 13) = true := (u8k 13 (by decide)).trans (decide_eq_true hc)
      clear hc
      go_enter Tryz.func49, Tryz.ntmps49
      go_wp2
      go_ret
      exact ⟨by rw [passI_some rfl rfl]; rfl, rfl⟩
    · have q1 : ((s[a].toNat : Int) == 9) = false := (u8k 9 (by decide)).trans (decide_eq_false (by rw [hc]; decide))
      have q2 : ((s[a].toNat : Int) == 10) = true := (u8k 10 (by decide)).trans (decide_eq_true hc)
      clear hc
      go_enter Tryz.func49, Tryz.ntmps49
      go_wp2
      go_ret
      exact ⟨by rw [passI_some rfl rfl]; rfl, rfl⟩
  · rw [if_neg w1]
    have w2 : ¬ (s[a] = 32 ∨ s[a] = 9 ∨ s[a] = 13 ∨ s[a] = 10) := fun hx => w1 (by unfold isWs; exact decide_eq_true hx)
    have q1 : ((s[a].toNat : Int) == 9) = false := (u8k 9 (by decide)).trans (decide_eq_false fun hx => w2 (.inr (.inl hx)))
    have q2 : ((s[a].toNat : Int) == 10) = false := (u8k 10 (by decide)).trans (decide_eq_false fun hx => w2 (.inr (.inr (.inr hx))))
    have q3 : ((s[a].toNat : Int) == 13) = false := (u8k 13 (by decide)).trans (decide_eq_false fun hx => w2 (.inr (.inr (.inl hx))))
    have q4 : ((s[a].toNat : Int) == 32) = false := (u8k 32 (by decide)).trans (decide_eq_false fun hx => w2 (.inl hx))
    clear w2 w1 hsp
    by_cases w3 : s[a] = 35
    · rw [if_pos w3]
      have q5 : ((s[a].toNat : Int) == 35) = true := (u8k 35 (by decide)).trans (decide_eq_true w3)
      have hln := lnL_span (tl s a)
      rw [tl_length] at hln
      have hsl := spanL_le noNl (tl s a)
      rw [tl_length] at hsl
      have hst := Lib.hid (spanF_zero (p := noNl) (s := s) (a := a) (Nat.le_of_lt h))
      have HX : Hid (∀ k, spanL noNl (tl s a) = k → lnL (tl s a) = min (k + 1) (s.size - a)) := fun k hk => by rw [hln, hk]
      clear hln hsl w3 hd
      generalize lnL (tl s a) = n at *
      go_enter Tryz.func49, Tryz.ntmps49
      go_wp2
      clear q1 q2 q3 q4 q5
      go_loop [1] (fun iv => ∃ k : Nat, iv = .int .i64 ((a + k : Nat) : Int) ∧ Hid (SpanFrom noNl s a k)) (fun iv => s.size - (intOf iv).toNat)
      case atStart => exact ⟨0, by first | rfl | trivial, hst⟩
      case round =>
        obtain ⟨k, rfl, hrel⟩ := hrel
        have hk := hrel.out.1
        by_cases hlt : a + k < s.size
        · obtain ⟨s1, s2⟩ := spanF_step hrel.out hlt
          have e1 : decide (((a + k : Nat) : Int) < (s.size : Int)) = true := decide_eq_true (by omega)
          by_cases h10 : s[a + k] = 10
          · have hX := Lib.hid (HX.out _ (s2 (by unfold noNl; exact decide_eq_false (fun hx => hx h10))))
            have q1 : ((s[a + k].toNat : Int) == 10) = true := (u8k 10 (by decide)).trans (decide_eq_true h10)
            have q2 : ((s[a + k].toNat : Int) != 10) = false := by rw [bne, q1]; rfl
            clear s1 s2 hrel HX h10
            go_wp2
            go_ret
            exact ⟨by rw [passI_some (n := k + 1) (by rw [hX.out]; congr 1; omega) rfl]; show Ending.returned (.int .i64 (min ((a : Int) + (k : Int) + 1) (s.size : Int))) = _; rw [show min ((a : Int) + (k : Int) + 1) (s.size : Int) = (a : Int) + ((k + 1 : Nat) : Int) by omega], rfl⟩
          · have hn := Lib.hid (s1 (by unfold noNl; exact decide_eq_true h10))
            have q1 : ((s[a + k].toNat : Int) == 10) = false := (u8k 10 (by decide)).trans (decide_eq_false h10)
            have q2 : ((s[a + k].toNat : Int) != 10) = true := by rw [bne, q1]; rfl
            clear s1 s2 hrel HX h10
            go_wp2
            go_round
            case rel => exact ⟨k + 1, by go_num, hn⟩
            case measure => simp [intOf]; omega
        · have hX := Lib.hid (HX.out _ (spanF_end hrel.out hlt))
          have e1 : decide (((a + k : Nat) : Int) < (s.size : Int)) = false := decide_eq_false (by omega)
          clear hrel HX
          go_wp2
          go_ret
          exact ⟨by rw [passI_some (n := k) (by rw [hX.out]; congr 1; omega) rfl]; show Ending.returned (.int .i64 (min ((a : Int) + (k : Int) + 1) (s.size : Int))) = _; rw [show min ((a : Int) + (k : Int) + 1) (s.size : Int) = (a : Int) + (k : Int) by omega], rfl⟩
    · rw [if_neg w3]
      have q5 : ((s[a].toNat : Int) == 35) = false := (u8k 35 (by decide)).trans (decide_eq_false w3)
      have hH := fun w => has_any s ⟨#[47, 42]⟩ a w hs (by decide) (by decide) (by omega)
      have eH : hasL (⟨#[47, 42]⟩ : ByteArray).data.toList (tl s a) = decide (s[a] = 47 ∧ (tl s (a + 1)).head? = some 42) := by rw [hd]; exact hasL2 47 42 _ _
      rw [eH] at hH
      clear eH hd
      by_cases w4 : s[a] = 47 ∧ (tl s (a + 1)).head? = some 42
      · rw [if_pos w4]
        rw [decide_eq_true w4] at hH
        have HH := Lib.hid hH
        have hst := Lib.hid (cmAt_zero s (a + 2))
        have h2 : a + 1 < s.size := by
          rcases Nat.lt_or_ge (a + 1) s.size with h2 | h2
          · exact h2
          · have := w4.2
            rw [tl_end s (a + 1) h2] at this
            cases this
        have HA := Lib.hid (fun k (hk : k < s.size) w => has_any s ⟨#[42, 47]⟩ k w hs (by decide) (by decide) (by omega))
        clear hH w4 w3
        generalize cmL (tl s (a + 2)) = X at *
        go_enter Tryz.func49, Tryz.ntmps49
        go_wp2_with (go_at_call 89; (with_reducible refine (HH.out _).mono ?_); rintro e w1 ⟨rfl, rfl⟩)
        clear q1 q2 q3 q4 q5
        go_loop [5] (fun iv => ∃ k : Nat, iv = .int .i64 (k : Int) ∧ k ≤ s.size ∧ Hid (CmAt s (a + 2) k X)) (fun iv => s.size - (intOf iv).toNat)
        case atStart => exact ⟨a + 2, by first | rfl | trivial, by omega, hst⟩
        case round =>
          obtain ⟨k, rfl, hk, hrel⟩ := hrel
          by_cases hlt : k < s.size
          · obtain ⟨s1, s2⟩ := cmAt_step hrel.out hlt
            have hA := HA.out k hlt
            cases hl : hasL [42, 47] (tl s k) with
            | true =>
              have hX := Lib.hid (s1 hl)
              have e2 : hasL (⟨#[42, 47]⟩ : ByteArray).data.toList (tl s k) = true := hl
              rw [e2] at hA
              have HG := Lib.hid hA
              clear s1 s2 hrel hA hl e2 HA
              go_wp2_with (go_at_call 89; (with_reducible refine (HG.out _).mono ?_); rintro e w1 ⟨rfl, rfl⟩)
              go_ret
              obtain ⟨n, hX1, hX2⟩ := hX.out
              exact ⟨by rw [passI_some (n := n + 4) (by rw [hX1]; rfl) rfl]; show Ending.returned (.int .i64 ((k : Int) + 2)) = _; rw [show (k : Int) + 2 = (a : Int) + ((n + 4 : Nat) : Int) by omega], rfl⟩
            | false =>
              have hn := Lib.hid (s2 hl)
              have e2 : hasL (⟨#[42, 47]⟩ : ByteArray).data.toList (tl s k) = false := hl
              rw [e2] at hA
              have HG := Lib.hid hA
              clear s1 s2 hrel hA hl e2 HA
              go_wp2_with (go_at_call 89; (with_reducible refine (HG.out _).mono ?_); rintro e w1 ⟨rfl, rfl⟩)
              go_round
              case rel => exact ⟨k + 1, by go_num, by omega, hn⟩
              case measure => simp [intOf]; omega
          · have hX := Lib.hid (cmAt_end hrel.out hlt)
            clear hrel
            go_wp2
            go_ret
            exact ⟨by rw [hX.out]; rfl, rfl⟩
      · rw [if_neg w4]
        rw [decide_eq_false w4] at hH
        have HH := Lib.hid hH
        clear hH w4 w3
        go_enter Tryz.func49, Tryz.ntmps49
        go_wp2_with (go_at_call 89; (with_reducible refine (HH.out _).mono ?_); rintro e w1 ⟨rfl, rfl⟩)
        go_ret
        exact ⟨by rw [passI_some rfl rfl]; rfl, rfl⟩
end Go.Proofs.YtgimgkjggaijoaaGreatDoor
namespace Go.Proofs.YtgimgkjggaijoaaGreatDoor
open Go.RowKit Pk Lx

theorem ext_take (s : ByteArray) (a n : Nat) (h : a + n ≤ s.size) : (⟨((tl s a).take n).toArray⟩ : ByteArray) = s.extract a (a + n) := by
  rw [← tl_take s a n h]
theorem ext_tl (s : ByteArray) (a : Nat) : (⟨(tl s a).toArray⟩ : ByteArray) = s.extract a s.size := by
  have : (s.extract a s.size).data.toList = tl s a := ext_from s a
  rw [← this]
theorem linB_tl (s : ByteArray) (a : Nat) (h : a < s.size) : linB (s.extract a s.size) = s.extract a (a + lnL (tl s a)) :: linB (s.extract (a + lnL (tl s a)) s.size) := by
  have e : (s.extract a s.size).data.toList = tl s a := ext_from s a
  rw [linB_cons (by rw [ext_size]; omega), e]
  have := lnL_le (tl s a)
  rw [tl_length] at this
  rw [ext_take s a _ (by omega), tl_drop, ext_tl]
/-- the lines split off, where the present one begins, and how far it is read -/
structure SplAt (s : ByteArray) (f i : Nat) (acc : List ByteArray) : Prop where
  lines : linB s = acc ++ linB (s.extract f s.size)
  run : SpanFrom noNl s f (i - f)
  le : f ≤ i
theorem splAt_zero (s : ByteArray) : SplAt s 0 0 [] := ⟨by rw [show s.extract 0 s.size = s from by rw [← ext_tl, tl_zero]]; rfl, spanF_zero (Nat.zero_le _), Nat.le_refl _⟩
theorem splAt_step {s : ByteArray} {f i : Nat} {acc : List ByteArray} (h : SplAt s f i acc) (hi : i < s.size) : (s[i] = 10 → SplAt s (i + 1) (i + 1) (acc ++ [s.extract f (i + 1)])) ∧ (s[i] ≠ 10 → SplAt s f (i + 1) acc) := by
  obtain ⟨h1, h2, h3⟩ := h
  have e : f + (i - f) = i := by omega
  obtain ⟨s1, s2⟩ := spanF_step h2 (by omega)
  refine ⟨fun hc => ?_, fun hc => ⟨h1, ?_, by omega⟩⟩
  · have hx := s2 (by unfold noNl; exact decide_eq_false (fun hx => hx (by simp only [e]; exact hc)))
    have hl := lnL_span (tl s f)
    rw [hx, tl_length] at hl
    refine ⟨?_, by rw [Nat.sub_self]; exact spanF_zero (by omega), Nat.le_refl _⟩
    rw [h1, linB_tl s f (by omega), hl, show f + min (i - f + 1) (s.size - f) = i + 1 by omega, List.append_assoc]
    rfl
  · have := s1 (by unfold noNl; exact decide_eq_true (by simp only [e]; exact hc))
    rw [show i + 1 - f = i - f + 1 by omega]
    exact this
theorem splAt_end {s : ByteArray} {f i : Nat} {acc : List ByteArray} (h : SplAt s f i acc) (hi : ¬ i < s.size) : (f < s.size → linB s = acc ++ [s.extract f s.size]) ∧ (¬ f < s.size → linB s = acc) := by
  obtain ⟨h1, h2, h3⟩ := h
  refine ⟨fun hf => ?_, fun hf => ?_⟩
  · have hx := spanF_end h2 (by omega)
    have hl := lnL_span (tl s f)
    have := h2.1
    rw [hx, tl_length] at hl
    rw [h1, linB_tl s f hf, hl, show f + min (i - f + 1) (s.size - f) = s.size by omega, linB_nil (R := s.extract s.size s.size) (by rw [ext_size]; omega)]
  · rw [h1, linB_nil (R := s.extract f s.size) (by rw [ext_size]; omega), List.append_nil]
theorem splAt_len {s : ByteArray} {f i : Nat} {acc : List ByteArray} (h : SplAt s f i acc) : acc.length ≤ s.size := by
  have := linB_len s
  rw [h.lines, List.length_append] at this
  omega
def SplIs (s : ByteArray) (w : World) (e : Ending) (w' : World) : Prop := ∃ v, e = .returned v ∧ ownsS w' w.heap.size 9 v (linB s) ∧ Below w.heap.size w w'
set_option maxHeartbeats 4000000 in
set_option maxRecDepth 100000 in
theorem splitQ_any (s : ByteArray) (w : World) (hs : s.size ≤ 10000000) : Calls Tryz.prog 125 #[.string s] w (SplIs s w) := by
  go_enter Tryz.func125, Tryz.ntmps125
  go_wp2
  go_loopw [3, 4, 5] (fun ov fv iv wr => ∃ (f i : Nat) (acc : List ByteArray), fv = .int .i64 f ∧ iv = .int .i64 i ∧ f ≤ i ∧ i ≤ s.size ∧ acc.length ≤ s.size ∧ ownsS wr w.heap.size 9 ov acc ∧ Below w.heap.size w wr ∧ Hid (SplAt s f i acc)) (fun _ _ iv _ => s.size - (intOf iv).toNat)
  case atStart => exact ⟨0, 0, [], by first | rfl | trivial, by first | rfl | trivial, Nat.le_refl _, Nat.zero_le _, Nat.zero_le _, World.ownsRow_nil w _ _ 1, Below.refl _ _, splAt_zero s⟩
  case round =>
    obtain ⟨f, i, acc, rfl, rfl, hf, hi, hal, hown, hbel, hrel⟩ := hrel
    have hsz := hbel.size
    by_cases hlt : i < s.size
    · obtain ⟨s1, s2⟩ := splAt_step hrel.out hlt
      by_cases h10 : s[i] = 10
      · have hn := Lib.hid (s1 h10)
        have hal2 := splAt_len hn.out
        rw [List.length_append, List.length_singleton] at hal2
        have q1 : ((s[i].toNat : Int) == 10) = true := (u8k 10 (by decide)).trans (decide_eq_true h10)
        have hX : Hid (∃ X, X = s.extract f (i + 1)) := ⟨_, rfl⟩
        clear s1 s2 hrel h10
        go_wp2_with (at_builtin; go_loud (refine append_str _ rfl (.tmp 16) (.tmp 22) sslN rfl w.heap.size _ _ rfl (ownsS.alloc hown _) ⟨_, 0, none⟩ 1 1 [_] rfl rfl (cells_new _ _ _) (by first | omega | (simp; done) | (simp; omega)) (by first | omega | (simp; done) | (simp; omega)) ?_; intro v6 w6 hown6 hg6; have hb6 := Below_grownS (Below.alloc hbel hsz _) (ownsS.alloc hown _) hg6 (by first | omega | (simp; done) | (simp; omega)); clear hg6))
        go_roundw
        case rel => exact ⟨i + 1, i + 1, _, by go_num, by go_num, Nat.le_refl _, by omega, by rw [List.length_append, List.length_singleton]; exact hal2, hown6, hb6, hn⟩
        case measure => simp [intOf]; omega
      · have hn := Lib.hid (s2 h10)
        have q1 : ((s[i].toNat : Int) == 10) = false := (u8k 10 (by decide)).trans (decide_eq_false h10)
        clear s1 s2 hrel h10
        go_wp2
        go_roundw
        case rel => exact ⟨f, i + 1, acc, by first | rfl | trivial, by go_num, by omega, by omega, hal, hown, hbel, hn⟩
        case measure => simp [intOf]; omega
    · obtain ⟨s1, s2⟩ := splAt_end hrel.out hlt
      by_cases hfs : f < s.size
      · have hX := Lib.hid (s1 hfs)
        clear s1 s2 hrel
        go_wp2_with (at_builtin; go_loud (refine append_str _ rfl (.tmp 30) (.tmp 34) sslN rfl w.heap.size _ _ rfl (ownsS.alloc hown _) ⟨_, 0, none⟩ 1 1 [_] rfl rfl (cells_new _ _ _) (by first | omega | (simp; done) | (simp; omega)) (by first | omega | (simp; done) | (simp; omega)) ?_; intro v6 w6 hown6 hg6; have hb6 := Below_grownS (Below.alloc hbel hsz _) (ownsS.alloc hown _) hg6 (by first | omega | (simp; done) | (simp; omega)); clear hg6))
        go_ret
        exact ⟨_, rfl, by rw [hX.out]; exact hown6, hb6⟩
      · have hX := Lib.hid (s2 hfs)
        clear s1 s2 hrel
        go_wp2
        go_ret
        exact ⟨_, rfl, by rw [hX.out]; exact hown, hbel⟩
theorem last_at (s : ByteArray) (h : 0 < s.size) : s.data.toList.getLast? = some (s[s.size - 1]'(by omega)) := by
  rw [List.getLast?_eq_getElem?]
  have e : s.data.toList.length = s.size := rfl
  rw [e, List.getElem?_eq_getElem (by omega)]
  rfl
theorem last_at2 (s : ByteArray) (h : 1 < s.size) : s.data.toList.dropLast.getLast? = some (s[s.size - 2]'(by omega)) := by
  rw [List.getLast?_eq_getElem?, List.length_dropLast]
  have e : s.data.toList.length = s.size := rfl
  rw [e, List.getElem?_dropLast, if_pos (by omega), List.getElem?_eq_getElem (by omega)]
  rfl
theorem ext_pre (s : ByteArray) (n : Nat) (h : n ≤ s.size) : toB (s.data.toList.take n) = s.extract 0 n := by
  have := ext_take s 0 n (by omega)
  rw [tl_zero, Nat.zero_add] at this
  exact this
set_option maxHeartbeats 4000000 in
set_option maxRecDepth 100000 in
theorem bareQ_any (s : ByteArray) (w : World) (hs : s.size ≤ 100000000) : Calls Tryz.prog 126 #[.string s] w fun e w' => e = .returned (.string (toB (bareN s.data.toList))) ∧ w = w' := by
  have HL : Hid (s.data.toList.length = s.size) := Lib.hid rfl
  by_cases h0 : 0 < s.size
  · have z1 : (0 : Int) ≤ (s.size : Int) - 1 := by omega
    have z3 : ((s.size : Int) - 1).toNat = s.size - 1 := by omega
    have z4 : (s.size : Int) - 1 < (s.size : Int) := by omega
    have k0 : ((s.size : Int) == 0) = false := beq_eq_false_iff_ne.2 (by omega)
    by_cases h1 : s[s.size - 1] = 10
    · have q1 : ((s[s.size - 1].toNat : Int) == 10) = true := (u8k 10 (by decide)).trans (decide_eq_true h1)
      have q1' : ((s[s.size - 1].toNat : Int) != 10) = false := by rw [bne, q1]; rfl
      have hb : bareN s.data.toList = chopN 13 s.data.toList.dropLast := by unfold bareN; rw [last_at s h0, if_pos (by rw [h1])]
      by_cases h2 : 1 < s.size
      · have k1 : decide ((1 : Int) < (s.size : Int)) = true := decide_eq_true (by omega)
        have y1 : (0 : Int) ≤ (s.size : Int) - 2 := by omega
        have y3 : ((s.size : Int) - 2).toNat = s.size - 2 := by omega
        by_cases h3 : s[s.size - 2] = 13
        · have q2 : ((s[s.size - 2].toNat : Int) == 13) = true := (u8k 13 (by decide)).trans (decide_eq_true h3)
          have hX : toB (bareN s.data.toList) = s.extract 0 (s.size - 2) := by
            rw [hb]; unfold chopN
            rw [last_at2 s h2, if_pos (by rw [h3]), List.dropLast_eq_take, List.dropLast_eq_take, List.length_take, List.take_take, HL.out, show min (min (s.size - 1) s.size - 1) (s.size - 1) = s.size - 2 by omega]
            exact ext_pre s _ (by omega)
          rw [hX]
          clear hX hb HL h1 h3
          go_enter Tryz.func126, Tryz.ntmps126
          go_wp2
          go_ret
          exact ⟨rfl, rfl⟩
        · have q2 : ((s[s.size - 2].toNat : Int) == 13) = false := (u8k 13 (by decide)).trans (decide_eq_false h3)
          have hX : toB (bareN s.data.toList) = s.extract 0 (s.size - 1) := by
            rw [hb]; unfold chopN
            rw [last_at2 s h2, if_neg (by simpa using h3), List.dropLast_eq_take, HL.out]
            exact ext_pre s _ (by omega)
          rw [hX]
          clear hX hb HL h1 h3
          go_enter Tryz.func126, Tryz.ntmps126
          go_wp2
          go_ret
          exact ⟨rfl, rfl⟩
      · have k1 : decide ((1 : Int) < (s.size : Int)) = false := decide_eq_false (by omega)
        have hX : toB (bareN s.data.toList) = s.extract 0 (s.size - 1) := by
          rw [hb]
          have : s.data.toList.dropLast = [] := List.eq_nil_of_length_eq_zero (by rw [List.length_dropLast, HL.out]; omega)
          rw [this, ← ext_pre s _ (by omega), show s.size - 1 = 0 by omega]
          rfl
        rw [hX]
        clear hX hb HL h1
        go_enter Tryz.func126, Tryz.ntmps126
        go_wp2
        go_ret
        exact ⟨rfl, rfl⟩
    · have q1 : ((s[s.size - 1].toNat : Int) == 10) = false := (u8k 10 (by decide)).trans (decide_eq_false h1)
      have q1' : ((s[s.size - 1].toNat : Int) != 10) = true := by rw [bne, q1]; rfl
      have hX : toB (bareN s.data.toList) = s := by unfold bareN; rw [last_at s h0, if_neg (by simpa using h1), toB_back]
      rw [hX]
      clear hX HL h1
      go_enter Tryz.func126, Tryz.ntmps126
      go_wp2
      go_ret
      exact ⟨rfl, rfl⟩
  · have k0 : ((s.size : Int) == 0) = true := beq_iff_eq.2 (by omega)
    have hX : toB (bareN s.data.toList) = s := by
      have e : s.data.toList = [] := List.eq_nil_of_length_eq_zero (by rw [HL.out]; omega)
      have e2 : toB s.data.toList = s := toB_back s
      rw [e] at e2 ⊢
      exact e2
    rw [hX]
    clear hX HL
    go_enter Tryz.func126, Tryz.ntmps126
    go_wp2
    go_ret
    exact ⟨rfl, rfl⟩
end Go.Proofs.YtgimgkjggaijoaaGreatDoor
namespace Go.Proofs.YtgimgkjggaijoaaGreatDoor
open Go.RowKit Pk Lx

theorem own_str_lt {w : World} {g j : Nat} {v : Value} (h : w.cell? ⟨g, j, none⟩ = some v) : g < w.heap.size := World.block_lt_of_cell? _ _ h
/-- the lines put out so far -/
def UnsAt (s : ByteArray) (i : Nat) (acc : List UInt8) : Prop := acc = mapB unst ((linB s).take i)
theorem unsAt_step {s : ByteArray} {i : Nat} {acc : List UInt8} (h : UnsAt s i acc) (hi : i < (linB s).length) : UnsAt s (i + 1) (acc ++ unst (linB s)[i].data.toList) := by
  unfold UnsAt at *
  rw [List.take_succ_eq_append_getElem hi, mapB_snoc, h]
theorem unsAt_len {s : ByteArray} {i : Nat} {acc : List UInt8} (h : UnsAt s i acc) : acc.length ≤ 2 * s.size := by
  rw [h]; exact mapB_le unst unst_le (List.take_prefix i _)
theorem unsAt_end {s : ByteArray} {i : Nat} {acc : List UInt8} (h : UnsAt s i acc) (hi : ¬ i < (linB s).length) : acc = mapN unst s.data.toList := by
  rw [h, List.take_of_length_le (by omega), mapB_lin]
theorem unst_tl (x : ByteArray) (h : 0 < x.size) : (x[0] = 46 → unst x.data.toList = (x.extract 1 x.size).data.toList) ∧ (x[0] ≠ 46 → unst x.data.toList = x.data.toList) := by
  have e1 : (x.extract 1 x.size).data.toList = tl x 1 := ext_from x 1
  rw [e1, data_cons x h, unst_cons]
  exact ⟨fun hc => by rw [if_pos hc], fun hc => by rw [if_neg hc]⟩
set_option maxHeartbeats 4000000 in
set_option maxRecDepth 100000 in
theorem unstuffQ_any (s : ByteArray) (w : World) (hs : s.size ≤ 10000000) : Calls Tryz.prog 127 #[.string s] w fun e w' => e = .returned (.string (toB (mapN unst s.data.toList))) ∧ Below w.heap.size w w' := by
  have HSp := Lib.hid (splitQ_any s w hs)
  have hst : Hid (UnsAt s 0 []) := rfl
  have HStep := Lib.hid (fun i acc => unsAt_step (s := s) (i := i) (acc := acc))
  have HLen := Lib.hid (fun i acc => unsAt_len (s := s) (i := i) (acc := acc))
  have HEnd := Lib.hid (fun i acc => unsAt_end (s := s) (i := i) (acc := acc))
  have hmem := fun x => linB_mem (s := s) (x := x)
  have hLl := linB_len s
  generalize UnsAt s = U at *
  go_enter Tryz.func127, Tryz.ntmps127
  go_wp2_with (go_at_call 125; (with_reducible refine HSp.out.mono ?_); rintro e w1 ⟨v, rfl, hown1, hb1⟩; obtain ⟨p, c, rfl, hlc, hcells⟩ := strs_seen hown1)
  have hz1 := hb1.size
  clear hown1 HSp
  generalize linB s = LB at *
  go_loopw [4, 5] (fun ov iv wr => ∃ (i : Nat) (acc : List UInt8), iv = .int .i64 i ∧ i ≤ LB.length ∧ ownsB wr w1.heap.size 5 ov acc ∧ Below w1.heap.size w1 wr ∧ Hid (U i acc)) (fun _ iv _ => LB.length - (intOf iv).toNat)
  case atStart => exact ⟨0, [], by first | rfl | trivial, Nat.zero_le _, ownsB.nil _ _ _, Below.refl _ _, hst⟩
  case round =>
    obtain ⟨i, acc, rfl, hi, hown, hbel, hrel⟩ := hrel
    have hsz := hbel.size
    have hal := HLen.out _ _ hrel.out
    by_cases hlt : i < LB.length
    · rcases hcells with rfl | ⟨g, rfl, -, hc⟩
      · simp at hlt
      · replace hc := hc i hlt
        have hcw := cell_later hbel hc
        obtain ⟨x0, x1⟩ := hmem _ (List.getElem_mem hlt)
        have hn := Lib.hid (HStep.out i acc hrel.out hlt)
        obtain ⟨x, hxe⟩ : ∃ x, x = LB[i] := ⟨_, rfl⟩
        rw [← hxe] at hc hcw x0 x1 hn
        obtain ⟨u1, u2⟩ := unst_tl x x0
        have hil : (i : Int) < (LB.length : Int) := by omega
        clear hxe hmem hc hrel HLen HEnd HStep
        by_cases h46 : x[0] = 46
        · have q1 : ((x[0].toNat : Int) == 46) = true := (u8k 46 (by decide)).trans (decide_eq_true h46)
          have hX := Lib.hid (u1 h46)
          have hxz := ext_size x 1 x.size
          clear u1 u2 h46
          go_wp2_with (at_builtin; go_loud (refine append_bstr _ rfl (.tmp 21) (.tmp 27) bslX Tryz.underlying9 rfl w1.heap.size _ _ rfl hown (x.extract 1 x.size) rfl (by omega) (by omega) ?_; intro v2 w2 hown2 hg2; have hb2 := Below_grown hbel hown hg2 (by omega); have hz2 := hb2.size; clear hg2))
          go_roundw
          case rel => exact ⟨i + 1, _, by go_num, by omega, by rw [← hX.out] at hown2; exact hown2, hb2, hn⟩
          case measure => simp [intOf]; omega
        · have q1 : ((x[0].toNat : Int) == 46) = false := (u8k 46 (by decide)).trans (decide_eq_false h46)
          have hX := Lib.hid (u2 h46)
          clear u1 u2 h46
          go_wp2_with (at_builtin; go_loud (refine append_bstr _ rfl (.tmp 21) (.tmp 27) bslX Tryz.underlying9 rfl w1.heap.size _ _ rfl hown x rfl (by omega) (by omega) ?_; intro v2 w2 hown2 hg2; have hb2 := Below_grown hbel hown hg2 (by omega); have hz2 := hb2.size; clear hg2))
          go_roundw
          case rel => exact ⟨i + 1, _, by go_num, by omega, by rw [← hX.out] at hown2; exact hown2, hb2, hn⟩
          case measure => simp [intOf]; omega
    · have hX := Lib.hid (HEnd.out i acc hrel.out hlt)
      have hcv := run_string_owned (P := Tryz.prog) (ts := 9) bslX Tryz.underlying9 hown
      clear hrel hcells
      go_wp2
      go_ret
      exact ⟨by rw [← hX.out]; rfl, hb1.trans (hbel.mono hz1)⟩
def LinT (a : Nat) (o : Option (List UInt8 × Nat)) : Option (List UInt8 × Nat) := o.map fun p => (p.1, a + p.2)
theorem linT_crlf {s : ByteArray} {a b : Nat} (hb : a + b < s.size) (h1 : s[a + b] = 13) (h2 : hasL [13, 10] (tl s (a + b)) = true) : LinT a (tailL (tl s a) b) = (dotG (linN (s.data.toList.drop (a + b + 2)))).map fun p => (p.1, a + b + 2 + p.2) := by
  rw [tl_cons s (a + b) hb, hasL2] at h2
  have h3 := of_decide_eq_true h2
  have e1 : ((tl s a).drop b).head? = some 13 := by rw [tl_drop, tl_cons s (a + b) hb]; exact congrArg some h3.1
  have e2 : ((tl s a).drop (b + 1)).head? = some 10 := by rw [tl_drop]; exact h3.2
  unfold LinT
  rw [tail_crlf ⟨e1, e2⟩, tl_drop, Option.map_map]
  show Option.map _ (dotG (linN (tl s (a + (b + 1 + 1))))) = Option.map _ (dotG (linN (tl s (a + b + 2))))
  rw [show a + (b + 1 + 1) = a + b + 2 by omega]
  congr 1
  funext p
  simp only [Function.comp_apply]
  congr 1; omega
theorem linT_lf {s : ByteArray} {a b : Nat} (h : hasL [13, 10] (tl s (a + b)) = false) : (hasL [10] (tl s (a + b)) = true → LinT a (tailL (tl s a) b) = (dotG (linN (s.data.toList.drop (a + b + 1)))).map fun p => (p.1, a + b + 1 + p.2)) ∧ (hasL [10] (tl s (a + b)) = false → LinT a (tailL (tl s a) b) = none) := by
  have hn : ¬ (((tl s a).drop b).head? = some 13 ∧ ((tl s a).drop (b + 1)).head? = some 10) := by
    rintro ⟨h1, h2⟩
    rw [tl_drop] at h1 h2
    by_cases hb : a + b < s.size
    · rw [tl_cons s (a + b) hb] at h1 h
      rw [hasL2, decide_eq_true ⟨Option.some.inj h1, h2⟩] at h
      cases h
    · rw [tl_end s (a + b) (by omega)] at h1
      cases h1
  unfold LinT
  rw [tail_lf hn, tl_drop, hasL1]
  refine ⟨fun h1 => ?_, fun h1 => ?_⟩
  · rw [if_pos (of_decide_eq_true h1), tl_drop, Option.map_map]
    show Option.map _ (dotG (linN (tl s (a + (b + 1))))) = Option.map _ (dotG (linN (tl s (a + b + 1))))
    rw [show a + (b + 1) = a + b + 1 by omega]
    congr 1
    funext p
    simp only [Function.comp_apply]
    congr 1; omega
  · rw [if_neg (of_decide_eq_false h1)]
    rfl
/-- what is told of the place m: the rest of the lines, or nothing -/
structure LinX (s : ByteArray) (m : Nat) (X : Option (List UInt8 × Nat)) : Prop where
  crlf : ∀ hb : m < s.size, s[m] = 13 → hasL [13, 10] (tl s m) = true → X = (dotG (linN (s.data.toList.drop (m + 2)))).map fun p => (p.1, m + 2 + p.2)
  lf : hasL [13, 10] (tl s m) = false → hasL [10] (tl s m) = true → X = (dotG (linN (s.data.toList.drop (m + 1)))).map fun p => (p.1, m + 1 + p.2)
  no : hasL [13, 10] (tl s m) = false → hasL [10] (tl s m) = false → X = none
theorem linX_of (s : ByteArray) (a b : Nat) {m : Nat} (hm : a + b = m) : LinX s m (LinT a (tailL (tl s a) b)) := by
  subst hm
  exact ⟨fun hb h1 h2 => linT_crlf hb h1 h2, fun h => (linT_lf h).1, fun h => (linT_lf h).2⟩
theorem linX_plain {s : ByteArray} {a m : Nat} (hk : a + spanL isBl (tl s a) = m) (h : hasL [35] (tl s m) = false) : LinX s m (LinT a (multiL (tl s a))) := by
  rw [hasL1] at h
  have h2 : ((tl s a).drop (spanL isBl (tl s a))).head? ≠ some 35 := by rw [tl_drop, hk]; exact of_decide_eq_false h
  rw [multi_nohash h2]
  exact linX_of s a _ hk
theorem linX_hash {s : ByteArray} {a m n : Nat} (hk : a + spanL isBl (tl s a) = m) (h : hasL [35] (tl s m) = true) (hj : m + spanL noNl (tl s m) = n) : LinX s n (LinT a (multiL (tl s a))) := by
  rw [hasL1] at h
  have h2 : ((tl s a).drop (spanL isBl (tl s a))).head? = some 35 := by rw [tl_drop, hk]; exact of_decide_eq_true h
  rw [multi_hash h2, tl_drop, hk]
  exact linX_of s a _ (by omega)
/-- the bytes from a up to m all satisfy p -/
def SpanM (p : UInt8 → Bool) (s : ByteArray) (a m : Nat) : Prop := m + spanL p (tl s m) = a + spanL p (tl s a)
theorem spanM_step {p : UInt8 → Bool} {s : ByteArray} {a m : Nat} (h : SpanM p s a m) (hk : m < s.size) : (p s[m] = true → SpanM p s a (m + 1)) ∧ (p s[m] = false → a + spanL p (tl s a) = m) := by
  unfold SpanM at *
  rw [tl_cons s m hk] at h
  have e : spanL p (s[m] :: tl s (m + 1)) = if p s[m] = true then spanL p (tl s (m + 1)) + 1 else 0 := rfl
  rw [e] at h
  refine ⟨fun h4 => ?_, fun h4 => ?_⟩
  · rw [if_pos h4] at h; omega
  · rw [if_neg (by rw [h4]; decide)] at h; omega
theorem spanM_end {p : UInt8 → Bool} {s : ByteArray} {a m : Nat} (h : SpanM p s a m) (hk : ¬ m < s.size) : a + spanL p (tl s a) = m := by
  unfold SpanM at h
  rw [tl_end s m (by omega)] at h
  have e : spanL p [] = 0 := rfl
  omega
theorem hasL_end (x : UInt8) (y : List UInt8) (s : ByteArray) (m : Nat) (h : ¬ m < s.size) : hasL (x :: y) (tl s m) = false := by
  rw [tl_end s m (by omega)]; rfl
theorem hasL_at (x : UInt8) (s : ByteArray) (m : Nat) (h : m < s.size) : hasL [x] (tl s m) = decide (s[m] = x) := by
  rw [hasL1, tl_cons s m h]
  simp
theorem hasL_at2 (x y : UInt8) (s : ByteArray) (m : Nat) (h : m < s.size) : hasL [x, y] (tl s m) = true → s[m] = x ∧ hasL [y] (tl s (m + 1)) = true := by
  intro hh
  rw [tl_cons s m h, hasL2] at hh
  have := of_decide_eq_true hh
  exact ⟨this.1, by rw [hasL1]; exact decide_eq_true this.2⟩
abbrev HasC (s X : ByteArray) (m : Int) (b : Bool) : Prop := ∀ w : World, Calls Tryz.prog 89 #[.string s, .int .i64 m, .string X] w fun e w' => e = .returned (.bool b) ∧ w = w'
theorem hasC_of {s X : ByteArray} {m : Nat} {b : Bool} {i : Int} (hi : i = (m : Int)) (hs : s.size ≤ 10000000) (hx : X.size ≤ 1000) (hx0 : 0 < X.size) (ha : m ≤ 20000000) (h : hasL X.data.toList (tl s m) = b) : HasC s X i b := fun w => by
  rw [← h, hi]; exact has_any s X m w hs hx hx0 ha
set_option maxHeartbeats 8000000 in
set_option maxRecDepth 100000 in
theorem linesQ_any (s : ByteArray) (a : Nat) (w : World) (hs : s.size ≤ 10000000) (ha : a ≤ s.size) : Calls Tryz.prog 92 #[.string s, .int .i64 a] w (PairIs (LinT a (multiL (tl s a))) w) := by
  have HP := Lib.hid (fun m => linX_plain (s := s) (a := a) (m := m))
  have HH := Lib.hid (fun m n => linX_hash (s := s) (a := a) (m := m) (n := n))
  generalize LinT a (multiL (tl s a)) = X at *
  have hst : Hid (SpanM isBl s a a) := rfl
  go_enter Tryz.func92, Tryz.ntmps92
  go_wp2
  go_loop [1] (fun iv => ∃ m : Nat, iv = .int .i64 m ∧ m ≤ s.size ∧ Hid (SpanM isBl s a m)) (fun iv => s.size - (intOf iv).toNat)
  case atStart => exact ⟨a, by first | rfl | trivial, ha, hst⟩
  case round =>
    obtain ⟨m, rfl, hm, hrel⟩ := hrel
    clear hst
    by_cases hlt : m < s.size
    · obtain ⟨s1, s2⟩ := spanM_step hrel.out hlt
      by_cases hbl : isBl s[m] = true
      · have hn := Lib.hid (s1 hbl)
        have hbc := of_decide_eq_true (show decide (s[m] = 32 ∨ s[m] = 9) = true from hbl)
        clear s1 s2 hrel hbl
        by_cases h32 : s[m] = 32
        · have q1 : ((s[m].toNat : Int) == 32) = true := (u8k 32 (by decide)).trans (decide_eq_true h32)
          clear h32 hbc
          go_wp2
          go_round
          case rel => exact ⟨m + 1, by go_num, by omega, hn⟩
          case measure => simp [intOf]; omega
        · have h9 : s[m] = 9 := hbc.resolve_left h32
          have q1 : ((s[m].toNat : Int) == 32) = false := (u8k 32 (by decide)).trans (decide_eq_false h32)
          have q2 : ((s[m].toNat : Int) == 9) = true := (u8k 9 (by decide)).trans (decide_eq_true h9)
          clear h32 hbc h9
          go_wp2
          go_round
          case rel => exact ⟨m + 1, by go_num, by omega, hn⟩
          case measure => simp [intOf]; omega
      · have hbc : ¬ (s[m] = 32 ∨ s[m] = 9) := fun h => hbl (by unfold isBl; exact decide_eq_true h)
        have q1 : ((s[m].toNat : Int) == 32) = false := (u8k 32 (by decide)).trans (decide_eq_false fun h => hbc (.inl h))
        have q2 : ((s[m].toNat : Int) == 9) = false := (u8k 9 (by decide)).trans (decide_eq_false fun h => hbc (.inr h))
        have hsp := s2 (by simpa using hbl)
        cases h35 : hasL [35] (tl s m) with
        | true =>
          have hLH := Lib.hid (fun n => HH.out m n hsp h35)
          have H1 := Lib.hid (hasC_of rfl (X := ⟨#[35]⟩) hs (by decide) (by decide) (by omega) h35)
          have hst : Hid (SpanM noNl s m m) := rfl
          clear s1 s2 hrel hbl hbc hsp h35 HP HH
          go_wp2_with (go_at_call 89; (with_reducible refine (H1.out _).mono ?_); rintro e w1 ⟨rfl, rfl⟩)
          go_loop [1] (fun iv => ∃ n : Nat, iv = .int .i64 n ∧ m ≤ n ∧ n ≤ s.size ∧ Hid (SpanM noNl s m n)) (fun iv => s.size - (intOf iv).toNat)
          case atStart => exact ⟨m, by first | rfl | trivial, Nat.le_refl _, hm, hst⟩
          case round =>
            obtain ⟨n, rfl, hmn, hn2, hrel⟩ := hrel
            clear hst q1 q2
            by_cases hlt2 : n < s.size
            · obtain ⟨s1, s2⟩ := spanM_step hrel.out hlt2
              by_cases h10 : s[n] = 10
              · have q1 : ((s[n].toNat : Int) == 10) = true := (u8k 10 (by decide)).trans (decide_eq_true h10)
                have q2 : ((s[n].toNat : Int) != 10) = false := by rw [bne, q1]; rfl
                have hLX := hLH.out n (s2 (by unfold noNl; exact decide_eq_false fun h => h h10))
                have hcr2 : hasL [13, 10] (tl s n) = false := by
                  cases h : hasL [13, 10] (tl s n) with
                  | false => rfl
                  | true =>
                    have := (hasL_at2 13 10 s n hlt2 h).1
                    rw [h10] at this; cases this
                have hlf : hasL [10] (tl s n) = true := by rw [hasL_at 10 s n hlt2]; exact decide_eq_true h10
                have HX := Lib.hid (hLX.lf hcr2 hlf)
                have H2 := Lib.hid (hasC_of rfl (X := ⟨#[13, 10]⟩) hs (by decide) (by decide) (by omega) hcr2)
                have H3 := Lib.hid (hasC_of rfl (X := ⟨#[10]⟩) hs (by decide) (by decide) (by omega) hlf)
                clear s1 s2 hrel h10 hcr2 hlf hLX hLH
                -- behind the line's end at f - 1
                have hBz := ext_size s (n + 1) s.size
                have HSp := Lib.hid (splitQ_any (s.extract (n + 1) s.size) w (by rw [hBz]; omega))
                have hst := Lib.hid (dotW_begin s (n + 1))
                have hmem := fun x => linB_mem (s := s.extract (n + 1) s.size) (x := x)
                have hLl := linB_len (s.extract (n + 1) s.size)
                generalize dotG (linN (s.data.toList.drop (n + 1))) = Y at *
                go_wp2_with (first
                  | (go_at_call 89; (with_reducible refine (H1.out _).mono ?_); rintro e w1 ⟨rfl, rfl⟩)
                  | (go_at_call 89; (with_reducible refine (H2.out _).mono ?_); rintro e w1 ⟨rfl, rfl⟩)
                  | (go_at_call 89; (with_reducible refine (H3.out _).mono ?_); rintro e w1 ⟨rfl, rfl⟩)
                  | (go_at_call 125; (with_reducible refine HSp.out.mono ?_); rintro e w1 ⟨v, rfl, hown, hb1⟩; obtain ⟨p, c, rfl, hlc, hcells⟩ := strs_seen hown))
                have hz1 := hb1.size
                clear hown H1 H2 H3 HSp
                generalize linB (s.extract (n + 1) s.size) = LB at *
                go_loop [7, 9] (fun av iv => ∃ i t : Nat, iv = .int .i64 i ∧ i ≤ LB.length ∧ av = .int .i64 t ∧ Hid (DotW s (n + 1) LB Y i t)) (fun _ iv => LB.length - (intOf iv).toNat)
                case atStart => exact ⟨0, n + 1, by first | rfl | trivial, Nat.zero_le _, by first | rfl | simp, hst⟩
                case round =>
                  obtain ⟨i, t, rfl, hi, rfl, hrel⟩ := hrel
                  clear hst
                  obtain ⟨t0, t1⟩ := dotW_flat hrel.out (by omega)
                  by_cases hlt : i < LB.length
                  · rcases hcells with rfl | ⟨g, rfl, -, hc⟩
                    · simp at hlt
                    · replace hc := hc i hlt
                      obtain ⟨x0, x1⟩ := hmem _ (List.getElem_mem hlt)
                      obtain ⟨s1, s2⟩ := dotW_step hrel.out hlt
                      obtain ⟨x, hxe⟩ : ∃ x, x = LB[i] := ⟨_, rfl⟩
                      rw [← hxe] at hc x0 x1 s1 s2
                      clear hxe
                      have hBr := fun w => bareQ_any x w (by omega)
                      have hod := one_dot x.data.toList
                      generalize toB (bareN x.data.toList) = Z at *
                      have HBr := Lib.hid hBr
                      have hil : (i : Int) < (LB.length : Int) := by omega
                      cases hd : isDot x.data.toList with
                      | true =>
                        have hY := Lib.hid (s1 hd)
                        rw [hd] at hod
                        have hUz := ext_size s (n + 1) t
                        have hU := fun W => unstuffQ_any (s.extract (n + 1) t) W (by rw [hUz]; omega)
                        obtain ⟨U, hZe, hZd, -⟩ := arrE (mapN unst (s.extract (n + 1) t).data.toList)
                        have hZ2 : toB (mapN unst (s.extract (n + 1) t).data.toList) = U := hZe.symm
                        rw [hZ2] at hU
                        have HU := Lib.hid hU
                        have HX := Lib.hid (show X = some (U.data.toList, t + x.size) by rw [HX.out, hY.out, hZd]; show some (_, _) = some (_, _); congr 2; omega)
                        clear hY hU hZe hZd hZ2
                        have hsz : x.size ≤ 10000000 := by omega
                        clear s1 s2 hrel hBr hd hUz hmem
                        go_wp2_with (go_at_call 126; (with_reducible refine (HBr.out _).mono ?_); rintro e w1 ⟨rfl, rfl⟩)
                        have hb9 := (Below.refl w1.heap.size w1).drew
                        have y1 : (0 : Int) ≤ (n : Int) + 1 := by omega
                        have y2 : (n : Int) + 1 ≤ (t : Int) := by omega
                        have y5 : ((n : Int) + 1).toNat = n + 1 := by omega
                        have y3 : (t : Int) ≤ (s.size : Int) := by omega
                        have y4 : IntKind.i64.wrap ((t : Int) + (x.size : Int)) = (t : Int) + (x.size : Int) := w64 rfl (by omega) (by omega)
                        go_region_held3 (fun W => W.cell? ⟨g, i, none⟩ = some (.string x)) (first | exact hc | exact hc2 | fail) ((go_at_call 127; (with_reducible refine (HU.out _).mono ?_); rintro e w2 ⟨rfl, hb2⟩; have hc2 := cell_later hb2 hc; have hb9 := hb9.trans (hb2.mono hb9.size)))
                        all_goals
                          go_wp2
                          go_ret2
                          exact ⟨by rw [HX.out]; show _ = Ending.returned (.tuple #[.string (toB U.data.toList), .int .i64 ((t + x.size : Nat) : Int)]); rw [toB_back]; rfl, hb1.trans (hb9.mono hz1)⟩
                      | false =>
                        have hnx := Lib.hid (s2 hd)
                        rw [hd] at hod
                        have hsz : x.size ≤ 10000000 := by omega
                        clear s1 s2 hrel hBr hd hmem
                        go_wp2_with (go_at_call 126; (with_reducible refine (HBr.out _).mono ?_); rintro e w1 ⟨rfl, rfl⟩)
                        go_round
                        case rel => exact ⟨i + 1, t + x.size, by go_num, by omega, by go_num, hnx⟩
                        case measure => simp [intOf]; omega
                  · have hY := Lib.hid (dotW_end hrel.out hlt)
                    have HX := Lib.hid (show X = none by rw [HX.out, hY.out]; rfl)
                    clear hrel
                    go_wp2
                    go_ret2
                    exact ⟨by rw [HX.out]; rfl, hb1⟩
              · have q1 : ((s[n].toNat : Int) == 10) = false := (u8k 10 (by decide)).trans (decide_eq_false h10)
                have q2 : ((s[n].toNat : Int) != 10) = true := by rw [bne, q1]; rfl
                have hn := Lib.hid (s1 (by unfold noNl; exact decide_eq_true h10))
                clear s1 s2 hrel h10 hLH
                go_wp2
                go_round
                case rel => exact ⟨n + 1, by go_num, by omega, by omega, hn⟩
                case measure => simp [intOf]; omega
            · have hLX := hLH.out n (spanM_end hrel.out hlt2)
              have hcr2 := hasL_end 13 [10] s n hlt2
              have hlf := hasL_end 10 [] s n hlt2
              have HX := Lib.hid (hLX.no hcr2 hlf)
              have H2 := Lib.hid (hasC_of rfl (X := ⟨#[13, 10]⟩) hs (by decide) (by decide) (by omega) hcr2)
              have H3 := Lib.hid (hasC_of rfl (X := ⟨#[10]⟩) hs (by decide) (by decide) (by omega) hlf)
              clear hrel hcr2 hlf hLX hLH
              go_wp2_with (first
                | (go_at_call 89; (with_reducible refine (H1.out _).mono ?_); rintro e w1 ⟨rfl, rfl⟩)
                | (go_at_call 89; (with_reducible refine (H2.out _).mono ?_); rintro e w1 ⟨rfl, rfl⟩)
                | (go_at_call 89; (with_reducible refine (H3.out _).mono ?_); rintro e w1 ⟨rfl, rfl⟩))
              go_ret2
              exact ⟨by rw [HX.out]; rfl, Below.refl _ _⟩
        | false =>
          have hLX := HP.out m hsp h35
          have H1 := Lib.hid (hasC_of rfl (X := ⟨#[35]⟩) hs (by decide) (by decide) (by omega) h35)
          clear s1 s2 hrel hbl hbc hsp h35 HP HH
          -- m the place, hLX : LinX s m X; H1 the contract of the check ahead
          by_cases hcr : hasL [13, 10] (tl s m) = true
          · have hml : m < s.size := by
              rcases Nat.lt_or_ge m s.size with h | h
              · exact h
              · rw [hasL_end 13 [10] s m (by omega)] at hcr; cases hcr
            obtain ⟨c1, c2⟩ := hasL_at2 13 10 s m hml hcr
            have hm2 : m + 1 < s.size := by
              rcases Nat.lt_or_ge (m + 1) s.size with h | h
              · exact h
              · rw [hasL_end 10 [] s (m + 1) (by omega)] at c2; cases c2
            have HX := Lib.hid (hLX.crlf hml c1 hcr)
            have H2 := Lib.hid (hasC_of rfl (X := ⟨#[13, 10]⟩) hs (by decide) (by decide) (by omega) hcr)
            have H3 := Lib.hid (hasC_of (i := (m : Int) + 1) (m := m + 1) (by omega) (X := ⟨#[10]⟩) hs (by decide) (by decide) (by omega) c2)
            clear hcr c1 c2 hLX
            -- behind the line's end at f - 1
            have hBz := ext_size s (m + 2) s.size
            have HSp := Lib.hid (splitQ_any (s.extract (m + 2) s.size) w (by rw [hBz]; omega))
            have hst := Lib.hid (dotW_begin s (m + 2))
            have hmem := fun x => linB_mem (s := s.extract (m + 2) s.size) (x := x)
            have hLl := linB_len (s.extract (m + 2) s.size)
            generalize dotG (linN (s.data.toList.drop (m + 2))) = Y at *
            go_wp2_with (first
              | (go_at_call 89; (with_reducible refine (H1.out _).mono ?_); rintro e w1 ⟨rfl, rfl⟩)
              | (go_at_call 89; (with_reducible refine (H2.out _).mono ?_); rintro e w1 ⟨rfl, rfl⟩)
              | (go_at_call 89; (with_reducible refine (H3.out _).mono ?_); rintro e w1 ⟨rfl, rfl⟩)
              | (go_at_call 125; (with_reducible refine HSp.out.mono ?_); rintro e w1 ⟨v, rfl, hown, hb1⟩; obtain ⟨p, c, rfl, hlc, hcells⟩ := strs_seen hown))
            have hz1 := hb1.size
            clear hown H1 H2 H3 HSp
            generalize linB (s.extract (m + 2) s.size) = LB at *
            go_loop [7, 9] (fun av iv => ∃ i t : Nat, iv = .int .i64 i ∧ i ≤ LB.length ∧ av = .int .i64 t ∧ Hid (DotW s (m + 2) LB Y i t)) (fun _ iv => LB.length - (intOf iv).toNat)
            case atStart => exact ⟨0, m + 2, by first | rfl | trivial, Nat.zero_le _, by first | rfl | simp, hst⟩
            case round =>
              obtain ⟨i, t, rfl, hi, rfl, hrel⟩ := hrel
              clear hst
              obtain ⟨t0, t1⟩ := dotW_flat hrel.out (by omega)
              by_cases hlt : i < LB.length
              · rcases hcells with rfl | ⟨g, rfl, -, hc⟩
                · simp at hlt
                · replace hc := hc i hlt
                  obtain ⟨x0, x1⟩ := hmem _ (List.getElem_mem hlt)
                  obtain ⟨s1, s2⟩ := dotW_step hrel.out hlt
                  obtain ⟨x, hxe⟩ : ∃ x, x = LB[i] := ⟨_, rfl⟩
                  rw [← hxe] at hc x0 x1 s1 s2
                  clear hxe
                  have hBr := fun w => bareQ_any x w (by omega)
                  have hod := one_dot x.data.toList
                  generalize toB (bareN x.data.toList) = Z at *
                  have HBr := Lib.hid hBr
                  have hil : (i : Int) < (LB.length : Int) := by omega
                  cases hd : isDot x.data.toList with
                  | true =>
                    have hY := Lib.hid (s1 hd)
                    rw [hd] at hod
                    have hUz := ext_size s (m + 2) t
                    have hU := fun W => unstuffQ_any (s.extract (m + 2) t) W (by rw [hUz]; omega)
                    obtain ⟨U, hZe, hZd, -⟩ := arrE (mapN unst (s.extract (m + 2) t).data.toList)
                    have hZ2 : toB (mapN unst (s.extract (m + 2) t).data.toList) = U := hZe.symm
                    rw [hZ2] at hU
                    have HU := Lib.hid hU
                    have HX := Lib.hid (show X = some (U.data.toList, t + x.size) by rw [HX.out, hY.out, hZd]; show some (_, _) = some (_, _); congr 2; omega)
                    clear hY hU hZe hZd hZ2
                    have hsz : x.size ≤ 10000000 := by omega
                    clear s1 s2 hrel hBr hd hUz hmem
                    go_wp2_with (go_at_call 126; (with_reducible refine (HBr.out _).mono ?_); rintro e w1 ⟨rfl, rfl⟩)
                    have hb9 := (Below.refl w1.heap.size w1).drew
                    have y1 : (0 : Int) ≤ (m : Int) + 1 + 1 := by omega
                    have y2 : (m : Int) + 1 + 1 ≤ (t : Int) := by omega
                    have y5 : ((m : Int) + 1 + 1).toNat = m + 2 := by omega
                    have y3 : (t : Int) ≤ (s.size : Int) := by omega
                    have y4 : IntKind.i64.wrap ((t : Int) + (x.size : Int)) = (t : Int) + (x.size : Int) := w64 rfl (by omega) (by omega)
                    go_region_held3 (fun W => W.cell? ⟨g, i, none⟩ = some (.string x)) (first | exact hc | exact hc2 | fail) ((go_at_call 127; (with_reducible refine (HU.out _).mono ?_); rintro e w2 ⟨rfl, hb2⟩; have hc2 := cell_later hb2 hc; have hb9 := hb9.trans (hb2.mono hb9.size)))
                    all_goals
                      go_wp2
                      go_ret2
                      exact ⟨by rw [HX.out]; show _ = Ending.returned (.tuple #[.string (toB U.data.toList), .int .i64 ((t + x.size : Nat) : Int)]); rw [toB_back]; rfl, hb1.trans (hb9.mono hz1)⟩
                  | false =>
                    have hnx := Lib.hid (s2 hd)
                    rw [hd] at hod
                    have hsz : x.size ≤ 10000000 := by omega
                    clear s1 s2 hrel hBr hd hmem
                    go_wp2_with (go_at_call 126; (with_reducible refine (HBr.out _).mono ?_); rintro e w1 ⟨rfl, rfl⟩)
                    go_round
                    case rel => exact ⟨i + 1, t + x.size, by go_num, by omega, by go_num, hnx⟩
                    case measure => simp [intOf]; omega
              · have hY := Lib.hid (dotW_end hrel.out hlt)
                have HX := Lib.hid (show X = none by rw [HX.out, hY.out]; rfl)
                clear hrel
                go_wp2
                go_ret2
                exact ⟨by rw [HX.out]; rfl, hb1⟩
          · have hcr2 : hasL [13, 10] (tl s m) = false := by simpa using hcr
            have H2 := Lib.hid (hasC_of rfl (X := ⟨#[13, 10]⟩) hs (by decide) (by decide) (by omega) hcr2)
            cases hlf : hasL [10] (tl s m) with
            | true =>
              have hml : m < s.size := by
                rcases Nat.lt_or_ge m s.size with h | h
                · exact h
                · rw [hasL_end 10 [] s m (by omega)] at hlf; cases hlf
              have HX := Lib.hid (hLX.lf hcr2 hlf)
              have H3 := Lib.hid (hasC_of rfl (X := ⟨#[10]⟩) hs (by decide) (by decide) (by omega) hlf)
              clear hcr hcr2 hlf hLX
              -- behind the line's end at f - 1
              have hBz := ext_size s (m + 1) s.size
              have HSp := Lib.hid (splitQ_any (s.extract (m + 1) s.size) w (by rw [hBz]; omega))
              have hst := Lib.hid (dotW_begin s (m + 1))
              have hmem := fun x => linB_mem (s := s.extract (m + 1) s.size) (x := x)
              have hLl := linB_len (s.extract (m + 1) s.size)
              generalize dotG (linN (s.data.toList.drop (m + 1))) = Y at *
              go_wp2_with (first
                | (go_at_call 89; (with_reducible refine (H1.out _).mono ?_); rintro e w1 ⟨rfl, rfl⟩)
                | (go_at_call 89; (with_reducible refine (H2.out _).mono ?_); rintro e w1 ⟨rfl, rfl⟩)
                | (go_at_call 89; (with_reducible refine (H3.out _).mono ?_); rintro e w1 ⟨rfl, rfl⟩)
                | (go_at_call 125; (with_reducible refine HSp.out.mono ?_); rintro e w1 ⟨v, rfl, hown, hb1⟩; obtain ⟨p, c, rfl, hlc, hcells⟩ := strs_seen hown))
              have hz1 := hb1.size
              clear hown H1 H2 H3 HSp
              generalize linB (s.extract (m + 1) s.size) = LB at *
              go_loop [7, 9] (fun av iv => ∃ i t : Nat, iv = .int .i64 i ∧ i ≤ LB.length ∧ av = .int .i64 t ∧ Hid (DotW s (m + 1) LB Y i t)) (fun _ iv => LB.length - (intOf iv).toNat)
              case atStart => exact ⟨0, m + 1, by first | rfl | trivial, Nat.zero_le _, by first | rfl | simp, hst⟩
              case round =>
                obtain ⟨i, t, rfl, hi, rfl, hrel⟩ := hrel
                clear hst
                obtain ⟨t0, t1⟩ := dotW_flat hrel.out (by omega)
                by_cases hlt : i < LB.length
                · rcases hcells with rfl | ⟨g, rfl, -, hc⟩
                  · simp at hlt
                  · replace hc := hc i hlt
                    obtain ⟨x0, x1⟩ := hmem _ (List.getElem_mem hlt)
                    obtain ⟨s1, s2⟩ := dotW_step hrel.out hlt
                    obtain ⟨x, hxe⟩ : ∃ x, x = LB[i] := ⟨_, rfl⟩
                    rw [← hxe] at hc x0 x1 s1 s2
                    clear hxe
                    have hBr := fun w => bareQ_any x w (by omega)
                    have hod := one_dot x.data.toList
                    generalize toB (bareN x.data.toList) = Z at *
                    have HBr := Lib.hid hBr
                    have hil : (i : Int) < (LB.length : Int) := by omega
                    cases hd : isDot x.data.toList with
                    | true =>
                      have hY := Lib.hid (s1 hd)
                      rw [hd] at hod
                      have hUz := ext_size s (m + 1) t
                      have hU := fun W => unstuffQ_any (s.extract (m + 1) t) W (by rw [hUz]; omega)
                      obtain ⟨U, hZe, hZd, -⟩ := arrE (mapN unst (s.extract (m + 1) t).data.toList)
                      have hZ2 : toB (mapN unst (s.extract (m + 1) t).data.toList) = U := hZe.symm
                      rw [hZ2] at hU
                      have HU := Lib.hid hU
                      have HX := Lib.hid (show X = some (U.data.toList, t + x.size) by rw [HX.out, hY.out, hZd]; show some (_, _) = some (_, _); congr 2; omega)
                      clear hY hU hZe hZd hZ2
                      have hsz : x.size ≤ 10000000 := by omega
                      clear s1 s2 hrel hBr hd hUz hmem
                      go_wp2_with (go_at_call 126; (with_reducible refine (HBr.out _).mono ?_); rintro e w1 ⟨rfl, rfl⟩)
                      have hb9 := (Below.refl w1.heap.size w1).drew
                      have y1 : (0 : Int) ≤ (m : Int) + 1 := by omega
                      have y2 : (m : Int) + 1 ≤ (t : Int) := by omega
                      have y5 : ((m : Int) + 1).toNat = m + 1 := by omega
                      have y3 : (t : Int) ≤ (s.size : Int) := by omega
                      have y4 : IntKind.i64.wrap ((t : Int) + (x.size : Int)) = (t : Int) + (x.size : Int) := w64 rfl (by omega) (by omega)
                      go_region_held3 (fun W => W.cell? ⟨g, i, none⟩ = some (.string x)) (first | exact hc | exact hc2 | fail) ((go_at_call 127; (with_reducible refine (HU.out _).mono ?_); rintro e w2 ⟨rfl, hb2⟩; have hc2 := cell_later hb2 hc; have hb9 := hb9.trans (hb2.mono hb9.size)))
                      all_goals
                        go_wp2
                        go_ret2
                        exact ⟨by rw [HX.out]; show _ = Ending.returned (.tuple #[.string (toB U.data.toList), .int .i64 ((t + x.size : Nat) : Int)]); rw [toB_back]; rfl, hb1.trans (hb9.mono hz1)⟩
                    | false =>
                      have hnx := Lib.hid (s2 hd)
                      rw [hd] at hod
                      have hsz : x.size ≤ 10000000 := by omega
                      clear s1 s2 hrel hBr hd hmem
                      go_wp2_with (go_at_call 126; (with_reducible refine (HBr.out _).mono ?_); rintro e w1 ⟨rfl, rfl⟩)
                      go_round
                      case rel => exact ⟨i + 1, t + x.size, by go_num, by omega, by go_num, hnx⟩
                      case measure => simp [intOf]; omega
                · have hY := Lib.hid (dotW_end hrel.out hlt)
                  have HX := Lib.hid (show X = none by rw [HX.out, hY.out]; rfl)
                  clear hrel
                  go_wp2
                  go_ret2
                  exact ⟨by rw [HX.out]; rfl, hb1⟩
            | false =>
              have HX := Lib.hid (hLX.no hcr2 hlf)
              have H3 := Lib.hid (hasC_of rfl (X := ⟨#[10]⟩) hs (by decide) (by decide) (by omega) hlf)
              clear hcr hcr2 hlf hLX
              go_wp2_with (first
                | (go_at_call 89; (with_reducible refine (H1.out _).mono ?_); rintro e w1 ⟨rfl, rfl⟩)
                | (go_at_call 89; (with_reducible refine (H2.out _).mono ?_); rintro e w1 ⟨rfl, rfl⟩)
                | (go_at_call 89; (with_reducible refine (H3.out _).mono ?_); rintro e w1 ⟨rfl, rfl⟩))
              go_ret2
              exact ⟨by rw [HX.out]; rfl, Below.refl _ _⟩
    · have hsp := spanM_end hrel.out hlt
      have h35 := hasL_end 35 [] s m hlt
      have hLX := HP.out m hsp h35
      have hcr2 := hasL_end 13 [10] s m hlt
      have hlf := hasL_end 10 [] s m hlt
      have HX := Lib.hid (hLX.no hcr2 hlf)
      have H1 := Lib.hid (hasC_of rfl (X := ⟨#[35]⟩) hs (by decide) (by decide) (by omega) h35)
      have H2 := Lib.hid (hasC_of rfl (X := ⟨#[13, 10]⟩) hs (by decide) (by decide) (by omega) hcr2)
      have H3 := Lib.hid (hasC_of rfl (X := ⟨#[10]⟩) hs (by decide) (by decide) (by omega) hlf)
      clear hrel hcr2 hlf hLX h35 hsp HP HH
      go_wp2_with (first
        | (go_at_call 89; (with_reducible refine (H1.out _).mono ?_); rintro e w1 ⟨rfl, rfl⟩)
        | (go_at_call 89; (with_reducible refine (H2.out _).mono ?_); rintro e w1 ⟨rfl, rfl⟩)
        | (go_at_call 89; (with_reducible refine (H3.out _).mono ?_); rintro e w1 ⟨rfl, rfl⟩))
      go_ret2
      exact ⟨by rw [HX.out]; rfl, Below.refl _ _⟩
end Go.Proofs.YtgimgkjggaijoaaGreatDoor
namespace Go.Proofs.YtgimgkjggaijoaaGreatDoor
open Go.RowKit Pk Lx

set_option maxHeartbeats 4000000 in
set_option maxRecDepth 100000 in
theorem quotedQ_any (s : ByteArray) (a : Nat) (w : World) (hs : s.size ≤ 10000000) (h : a < s.size) : Calls Tryz.prog 95 #[.string s, .int .i64 a] w (PairIs ((quoL (tl s (a + 1))).map fun p => (p.1, a + 1 + p.2)) w) := by
  have hst : Hid (QuoAt s (a + 1) [] ((quoL (tl s (a + 1))).map fun p => (p.1, a + 1 + p.2))) := by show _ = _; simp
  generalize (quoL (tl s (a + 1))).map (fun p => (p.1, a + 1 + p.2)) = X at *
  go_enter Tryz.func95, Tryz.ntmps95
  go_wp2
  go_loopw [6, 7] (fun ov iv wr => ∃ (i : Nat) (acc : List UInt8), iv = .int .i64 i ∧ i ≤ s.size + 1 ∧ acc.length ≤ i ∧ ownsB wr w.heap.size 5 ov acc ∧ Below w.heap.size w wr ∧ Hid (QuoAt s i acc X)) (fun _ iv _ => s.size + 1 - (intOf iv).toNat)
  case atStart => exact ⟨a + 1, [], by first | rfl | trivial, by omega, by simp, ownsB.nil _ _ _, Below.refl _ w, hst⟩
  case round =>
    obtain ⟨i, acc, rfl, hi, hal, hown, hbel, hrel⟩ := hrel
    clear hst
    have hsz := hbel.size
    by_cases hlt : i < s.size
    · obtain ⟨s1, s2, s3⟩ := quo_step hrel.out hlt
      have hcb := s[i].toNat_lt
      by_cases g1 : s[i] = 34
      · have hX := Lib.hid (s1 g1)
        have q1 : ((s[i].toNat : Int) == 34) = true := (u8k 34 (by decide)).trans (decide_eq_true g1)
        have hcv := run_string_owned (P := Tryz.prog) (ts := 9) bslX Tryz.underlying9 hown
        obtain ⟨A, hAe, hAd, -⟩ := arrE acc
        have HA := Lib.hid hAd
        rw [← hAe] at hcv
        clear s1 s2 s3 hrel g1 hAe hAd hown
        go_wp2
        go_ret2
        exact ⟨by rw [hX.out, ← HA.out]; show _ = Ending.returned (.tuple #[.string (toB A.data.toList), .int .i64 ((i + 1 : Nat) : Int)]); rw [toB_back]; rfl, hbel⟩
      · have q1 : ((s[i].toNat : Int) == 34) = false := (u8k 34 (by decide)).trans (decide_eq_false g1)
        by_cases g2 : s[i] = 92
        · have q2 : ((s[i].toNat : Int) == 92) = true := (u8k 92 (by decide)).trans (decide_eq_true g2)
          obtain ⟨s4, s5⟩ := s2 g2
          by_cases hlt2 : i + 1 < s.size
          · have hnx := Lib.hid (s4 hlt2)
            have hcb2 := s[i + 1].toNat_lt
            clear s1 s2 s3 s4 s5 hrel g1 g2
            go_wp2_with (at_builtin; go_loud (refine append_bytes _ rfl (.tmp 34) (.tmp 38) bslX rfl w.heap.size _ _ rfl (hown.alloc _) ⟨_, 0, none⟩ 1 1 [_] rfl rfl (cells_new _ _ _) (by first | omega | (simp; done) | (simp; omega)) (by first | omega | (simp; done) | (simp; omega)) ?_); intro v2 w2 hown2 hg2; have hb2 := Below_grown (hbel.alloc hsz _) (hown.alloc _) hg2 (by first | omega | (simp; done) | (simp; omega)); have hz2 := hb2.size; clear hg2)
            go_roundw
            case rel => exact ⟨i + 1 + 1, _, by go_num, by omega, by rw [List.length_append, List.length_singleton]; omega, hown2, hb2, hnx⟩
            case measure => simp [intOf]; omega
          · have hX := Lib.hid (s5 hlt2)
            have hnx : Hid (QuoAt s (i + 1 + 1) acc X) := by
              show _ = _
              rw [tl_end s (i + 1 + 1) (by omega), hX.out]; rfl
            clear s1 s2 s3 s4 s5 hrel g1 g2
            go_wp2
            go_roundw
            case rel => exact ⟨i + 1 + 1, acc, by go_num, by omega, by omega, hown, hbel, hnx⟩
            case measure => simp [intOf]; omega
        · have q2 : ((s[i].toNat : Int) == 92) = false := (u8k 92 (by decide)).trans (decide_eq_false g2)
          have hnx := Lib.hid (s3 g1 g2)
          clear s1 s2 s3 hrel g1 g2
          go_wp2_with (at_builtin; go_loud (refine append_bytes _ rfl (.tmp 34) (.tmp 38) bslX rfl w.heap.size _ _ rfl (hown.alloc _) ⟨_, 0, none⟩ 1 1 [_] rfl rfl (cells_new _ _ _) (by first | omega | (simp; done) | (simp; omega)) (by first | omega | (simp; done) | (simp; omega)) ?_); intro v2 w2 hown2 hg2; have hb2 := Below_grown (hbel.alloc hsz _) (hown.alloc _) hg2 (by first | omega | (simp; done) | (simp; omega)); have hz2 := hb2.size; clear hg2)
          go_roundw
          case rel => exact ⟨i + 1, _, by go_num, by omega, by rw [List.length_append, List.length_singleton]; omega, hown2, hb2, hnx⟩
          case measure => simp [intOf]; omega
    · have hX := Lib.hid (quo_end hrel.out hlt)
      clear hrel
      go_wp2
      go_ret2
      exact ⟨by rw [hX.out]; rfl, hbel⟩
end Go.Proofs.YtgimgkjggaijoaaGreatDoor
