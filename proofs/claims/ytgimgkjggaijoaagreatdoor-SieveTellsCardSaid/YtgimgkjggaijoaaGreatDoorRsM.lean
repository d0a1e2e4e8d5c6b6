/- Walks: the reference's lexer: Number. Walks: the reference's lexer: Word. Printed by gen_rsg.py. Walks: the reference's lexer: Scan. -/
import Derived.Test.YtgimgkjggaijoaaGreatDoorRsL
import Derived.Test.YtgimgkjggaijoaaGreatDoorLxS
import Derived.Test.YtgimgkjggaijoaaGreatDoorLxT
namespace Go.Proofs.YtgimgkjggaijoaaGreatDoor
open Go.RowKit Pk Lx C1

theorem tl_take1 (s : ByteArray) (a k : Nat) (h : a + k < s.size) : (tl s a).take (k + 1) = (tl s a).take k ++ [s[a + k]] := by
  have e : (tl s a)[k]? = some s[a + k] := by rw [← List.head?_drop, tl_drop, tl_cons s (a + k) h]; rfl
  rw [List.take_add_one, e]; rfl
/-- the digits read -/
structure DigTo (s : ByteArray) (a k N : Nat) : Prop where
  span : SpanFrom isDig s a k
  eq : val 0 ((tl s a).take k) = N
  lt : N < 10 ^ k
theorem digTo_zero {s : ByteArray} {a : Nat} (h : a ≤ s.size) : DigTo s a 0 0 := ⟨spanF_zero h, rfl, by decide⟩
theorem digTo_step {s : ByteArray} {a k N : Nat} (h : DigTo s a k N) (hk : a + k < s.size) (hd : isDig s[a + k] = true) : DigTo s a (k + 1) (N * 10 + (s[a + k].toNat - 48)) := by
  refine ⟨(spanF_step h.span hk).1 hd, by rw [tl_take1 s a k hk, val_snoc, h.eq], ?_⟩
  have h1 := h.lt
  unfold isDig at hd
  have h2 := of_decide_eq_true hd
  rw [Nat.pow_succ]
  omega
theorem digTo_lt {s : ByteArray} {a k N : Nat} (h : DigTo s a k N) (hk : k ≤ 12) : N < 1000000000000 := Nat.lt_of_lt_of_le h.lt (Nat.pow_le_pow_right (by decide) hk)
theorem dig_more {s : ByteArray} {a : Nat} {k : Nat} (h : SpanFrom isDig s a k) (hk : a + k < s.size) (hd : isDig s[a + k] = true) : k < spanL isDig (tl s a) := by
  obtain ⟨h1, h2⟩ := (spanF_step h hk).1 hd
  omega
theorem num_many {l : List UInt8} (h : 12 < spanL isDig l) : numL l = none := by unfold numL; rw [if_pos (.inl h)]
theorem num_eq {l : List UInt8} {k N : Nat} (h : spanL isDig l = k) (hN : val 0 (l.take k) = N) (hk : k ≤ 12) : numL l = if most < N then none else if hdK (l.drop k) = 0 then (if hdW (l.drop k) = true then none else some (N, k)) else if most / 1024 ^ hdK (l.drop k) < N then none else if hdW (l.drop (k + 1)) = true then none else some (N * 1024 ^ hdK (l.drop k), k + 1) := by
  unfold numL
  simp only [h, hN]
  by_cases h1 : most < N
  · rw [if_pos (.inr h1), if_pos h1]
  · rw [if_neg (by omega), if_neg h1]
theorem hdW_tl (s : ByteArray) (a : Nat) : (∀ h : a < s.size, hdW (tl s a) = isWd s[a]) ∧ (¬ a < s.size → hdW (tl s a) = false) := ⟨fun h => by rw [tl_cons s a h]; rfl, fun h => by rw [tl_end s a (by omega)]; rfl⟩
theorem hdK_tl (s : ByteArray) (a : Nat) : (∀ h : a < s.size, hdK (tl s a) = kmg s[a]) ∧ (¬ a < s.size → hdK (tl s a) = 0) := ⟨fun h => by rw [tl_cons s a h]; rfl, fun h => by rw [tl_end s a (by omega)]; rfl⟩
def NumA (o : Option (Nat × Nat)) (a : Nat) (w : World) (e : Ending) (w' : World) : Prop := e = .returned (NumT (o.map fun p => (p.1, a + p.2))) ∧ w = w'
/-- what is left to tell behind the digits: the bound first, then what follows -/
def NumX (s : ByteArray) (a p : Nat) (v n lim N : Nat) : Prop :=
  (lim < N → numL (tl s a) = none) ∧ (∀ h : p < s.size, (isWd s[p] = true → numL (tl s a) = none) ∧ (isWd s[p] = false → numL (tl s a) = some (v, n))) ∧ (¬ p < s.size → numL (tl s a) = some (v, n))
/-- what is told where the bound holds -/
def NumY (s : ByteArray) (a p : Nat) (v n lim N : Nat) : Prop := (lim < N → numL (tl s a) = none) ∧ (¬ lim < N → NumX s a p v n lim N)
theorem num_plain {s : ByteArray} {a k N : Nat} (h : DigTo s a k N) (hs : spanL isDig (tl s a) = k) (hk : k ≤ 12) (hK : hdK (tl s (a + k)) = 0) : (most < N → numL (tl s a) = none) ∧ (¬ most < N → NumX s a (a + k) N k most N) := by
  have e := num_eq hs h.eq hk
  rw [tl_drop, hK, if_pos rfl] at e
  refine ⟨fun h1 => by rw [e, if_pos h1], fun h1 => ⟨fun h2 => absurd h2 h1, fun h2 => ⟨fun h3 => ?_, fun h3 => ?_⟩, fun h2 => ?_⟩⟩
  · rw [e, if_neg h1, (hdW_tl s (a + k)).1 h2, if_pos h3]
  · rw [e, if_neg h1, (hdW_tl s (a + k)).1 h2, if_neg (by rw [h3]; decide)]
  · rw [e, if_neg h1, (hdW_tl s (a + k)).2 h2, if_neg (by decide)]
theorem num_unit {s : ByteArray} {a k N : Nat} (K by_ lim : Nat) (h : DigTo s a k N) (hs : spanL isDig (tl s a) = k) (hk : k ≤ 12) (hK : hdK (tl s (a + k)) = K) (h0 : K ≠ 0) (hb : 1024 ^ K = by_) (hl : most / by_ = lim) (hlm : lim ≤ most) : (lim < N → numL (tl s a) = none) ∧ (¬ lim < N → NumX s a (a + k + 1) (N * by_) (k + 1) lim N) := by
  have e := num_eq hs h.eq hk
  rw [tl_drop, tl_drop, hK, if_neg h0, hb, hl] at e
  refine ⟨fun h1 => ?_, fun h1 => ⟨fun h2 => absurd h2 h1, fun h2 => ⟨fun h3 => ?_, fun h3 => ?_⟩, fun h2 => ?_⟩⟩
  · rw [e]; by_cases h2 : most < N
    · rw [if_pos h2]
    · rw [if_neg h2, if_pos h1]
  · rw [e, if_neg (by omega), if_neg h1, ← Nat.add_assoc, (hdW_tl s (a + k + 1)).1 h2, if_pos h3]
  · rw [e, if_neg (by omega), if_neg h1, ← Nat.add_assoc, (hdW_tl s (a + k + 1)).1 h2, if_neg (by rw [h3]; decide)]
  · rw [e, if_neg (by omega), if_neg h1, ← Nat.add_assoc, (hdW_tl s (a + k + 1)).2 h2, if_neg (by decide)]
set_option maxHeartbeats 8000000 in
set_option maxRecDepth 100000 in
theorem numberQ_any (s : ByteArray) (a : Nat) (w : World) (hs : s.size ≤ 10000000) (ha : a ≤ s.size) : Calls Tryz.prog 94 #[.string s, .int .i64 a] w (NumA (numL (tl s a)) a w) := by
  have HL := Lib.hid (fun c w1 => letterQ_any c w1)
  have HD := Lib.hid (fun c w1 => digitQ_any c w1)
  go_enter Tryz.func94, Tryz.ntmps94
  go_wp2
  go_loop [6, 7] (fun nv iv => ∃ k N : Nat, iv = .int .i64 ((a + k : Nat) : Int) ∧ nv = .int .i64 (N : Int) ∧ k ≤ 12 ∧ Hid (DigTo s a k N)) (fun _ iv => s.size - (intOf iv).toNat)
  case atStart => exact ⟨0, 0, by first | rfl | trivial, by first | rfl | trivial, by decide, digTo_zero ha⟩
  case round =>
    obtain ⟨k, N, rfl, rfl, hk12, hrel⟩ := hrel
    have hNlt := digTo_lt hrel.out hk12
    have hk := hrel.out.span.1
    have m1 : most = 1099511627776 := rfl
    by_cases hlt : a + k < s.size
    · have e1 : decide (((a + k : Nat) : Int) < (s.size : Int)) = true := decide_eq_true (by omega)
      have hD := HD.out s[a + k]
      have hcb := s[a + k].toNat_lt
      cases hd : isDig s[a + k] with
      | true =>
        rw [hd] at hD
        have HE := Lib.hid hD
        by_cases h12 : k = 12
        · have hX := Lib.hid (num_many (l := tl s a) (by have := dig_more hrel.out.span hlt hd; omega))
          have k1 : decide ((12 : Int) ≤ ((a + k : Nat) : Int) - (a : Int)) = true := decide_eq_true (by omega)
          subst h12
          clear hrel hd hD HL HD
          go_wp2_with (go_at_call 93; (with_reducible refine (HE.out _).mono ?_); rintro e w1 ⟨rfl, rfl⟩)
          go_ret2
          exact ⟨by rw [hX.out]; rfl, rfl⟩
        · have hn := Lib.hid (digTo_step hrel.out hlt hd)
          have k1 : decide ((12 : Int) ≤ ((a + k : Nat) : Int) - (a : Int)) = false := decide_eq_false (by omega)
          have hdg : 48 ≤ s[a + k].toNat ∧ s[a + k].toNat ≤ 57 := of_decide_eq_true hd
          obtain ⟨d1, d2⟩ := hdg
          clear hrel hd hD HL HD
          go_wp2_with (go_at_call 93; (with_reducible refine (HE.out _).mono ?_); rintro e w1 ⟨rfl, rfl⟩)
          go_round
          case rel => exact ⟨k + 1, _, by go_num, by go_num, by omega, hn⟩
          case measure => simp [intOf]; omega
      | false =>
        rw [hd] at hD
        have HE := Lib.hid hD
        have hsp := (spanF_step hrel.out.span hlt).2 hd
        have HDF := Lib.hid hd
        clear hD hd
        have hcs : s[a + k] = 75 ∨ s[a + k] = 107 ∨ s[a + k] = 77 ∨ s[a + k] = 109 ∨ s[a + k] = 71 ∨ s[a + k] = 103 ∨ ¬ (s[a + k] = 75 ∨ s[a + k] = 107 ∨ s[a + k] = 77 ∨ s[a + k] = 109 ∨ s[a + k] = 71 ∨ s[a + k] = 103) := by
          by_cases h1 : s[a + k] = 75
          · exact .inl h1
          by_cases h2 : s[a + k] = 107
          · exact .inr (.inl h2)
          by_cases h3 : s[a + k] = 77
          · exact .inr (.inr (.inl h3))
          by_cases h4 : s[a + k] = 109
          · exact .inr (.inr (.inr (.inl h4)))
          by_cases h5 : s[a + k] = 71
          · exact .inr (.inr (.inr (.inr (.inl h5))))
          by_cases h6 : s[a + k] = 103
          · exact .inr (.inr (.inr (.inr (.inr (.inl h6)))))
          exact .inr (.inr (.inr (.inr (.inr (.inr (by simp [h1, h2, h3, h4, h5, h6]))))))
        rcases hcs with hc | hc | hc | hc | hc | hc | hc
        ·
          have q75 : ((s[a + k].toNat : Int) == 75) = true := (u8k 75 (by decide)).trans (by rw [hc]; decide)
          have q107 : ((s[a + k].toNat : Int) == 107) = false := (u8k 107 (by decide)).trans (by rw [hc]; decide)
          have q77 : ((s[a + k].toNat : Int) == 77) = false := (u8k 77 (by decide)).trans (by rw [hc]; decide)
          have q109 : ((s[a + k].toNat : Int) == 109) = false := (u8k 109 (by decide)).trans (by rw [hc]; decide)
          have q71 : ((s[a + k].toNat : Int) == 71) = false := (u8k 71 (by decide)).trans (by rw [hc]; decide)
          have q103 : ((s[a + k].toNat : Int) == 103) = false := (u8k 103 (by decide)).trans (by rw [hc]; decide)
          have HY := num_unit 1 1024 1073741824 hrel.out hsp hk12 (by rw [(hdK_tl s (a + k)).1 hlt, hc]; rfl) (by decide) (by decide) (by decide) (by decide)
          have hlm : (1099511627776 : Int).tdiv 1024 = 1073741824 := by decide
          clear hrel hsp hc
          by_cases hlim : 1073741824 < N
          · have hX := Lib.hid (HY.1 hlim)
            have e3 : decide ((1073741824 : Int) < (N : Int)) = true := decide_eq_true (by omega)
            clear HY HL HD
            go_wp2_with (go_at_call 93; (with_reducible refine (HE.out _).mono ?_); rintro e w1 ⟨rfl, rfl⟩)
            go_ret2
            exact ⟨by rw [hX.out]; rfl, rfl⟩
          · have HX := Lib.hid (HY.2 hlim)
            have e3 : decide ((1073741824 : Int) < (N : Int)) = false := decide_eq_false (by omega)
            have e4 : decide ((1099511627776 : Int) < (N : Int) * 1024) = false := decide_eq_false (by omega)
            clear HY
            -- the check of what follows: p the place, v the value, n the length, X how the result is told
            by_cases hp : a + k + 1 < s.size
            · have e2 : decide (((a + k + 1 : Nat) : Int) < (s.size : Int)) = true := decide_eq_true (by omega)
              have hL := HL.out s[a + k + 1]
              have hD := HD.out s[a + k + 1]
              cases hl : isLet s[a + k + 1] with
              | true =>
                have hX := Lib.hid (((HX.out).2.1 hp).1 (by unfold isWd; rw [hl]; rfl))
                rw [hl] at hL
                have HG := Lib.hid hL
                clear hL hD hl HX
                go_wp2_with (first
            | (go_at_call 124; (with_reducible refine (HG.out _).mono ?_); rintro e w1 ⟨rfl, rfl⟩)
            | (go_at_call 93; (with_reducible refine (HE.out _).mono ?_); rintro e w1 ⟨rfl, rfl⟩))
                go_ret2
                exact ⟨by rw [hX.out]; rfl, rfl⟩
              | false =>
                cases hd : isDig s[a + k + 1] with
                | true =>
                  have hX := Lib.hid (((HX.out).2.1 hp).1 (by unfold isWd; rw [hl, hd]; rfl))
                  rw [hl] at hL
                  rw [hd] at hD
                  have HG := Lib.hid hL
                  have HE2 := Lib.hid hD
                  clear hL hD hl hd HX
                  go_wp2_with (first
            | (go_at_call 124; (with_reducible refine (HG.out _).mono ?_); rintro e w1 ⟨rfl, rfl⟩)
            | (go_at_call 93; (with_reducible refine (HE.out _).mono ?_); rintro e w1 ⟨rfl, rfl⟩)
            | (go_at_call 93; (with_reducible refine (HE2.out _).mono ?_); rintro e w1 ⟨rfl, rfl⟩))
                  go_ret2
                  exact ⟨by rw [hX.out]; rfl, rfl⟩
                | false =>
                  have hX := Lib.hid (((HX.out).2.1 hp).2 (by unfold isWd; rw [hl, hd]; rfl))
                  rw [hl] at hL
                  rw [hd] at hD
                  have HG := Lib.hid hL
                  have HE2 := Lib.hid hD
                  clear hL hD hl hd HX
                  go_wp2_with (first
            | (go_at_call 124; (with_reducible refine (HG.out _).mono ?_); rintro e w1 ⟨rfl, rfl⟩)
            | (go_at_call 93; (with_reducible refine (HE.out _).mono ?_); rintro e w1 ⟨rfl, rfl⟩)
            | (go_at_call 93; (with_reducible refine (HE2.out _).mono ?_); rintro e w1 ⟨rfl, rfl⟩))
                  go_ret2
                  exact ⟨by rw [hX.out]; rfl, rfl⟩
            · have e2 : decide (((a + k + 1 : Nat) : Int) < (s.size : Int)) = false := decide_eq_false (by omega)
              have hX := Lib.hid ((HX.out).2.2 hp)
              clear HX
              go_wp2_with (go_at_call 93; (with_reducible refine (HE.out _).mono ?_); rintro e w1 ⟨rfl, rfl⟩)
              go_ret2
              exact ⟨by rw [hX.out]; rfl, rfl⟩
        ·
          have q75 : ((s[a + k].toNat : Int) == 75) = false := (u8k 75 (by decide)).trans (by rw [hc]; decide)
          have q107 : ((s[a + k].toNat : Int) == 107) = true := (u8k 107 (by decide)).trans (by rw [hc]; decide)
          have q77 : ((s[a + k].toNat : Int) == 77) = false := (u8k 77 (by decide)).trans (by rw [hc]; decide)
          have q109 : ((s[a + k].toNat : Int) == 109) = false := (u8k 109 (by decide)).trans (by rw [hc]; decide)
          have q71 : ((s[a + k].toNat : Int) == 71) = false := (u8k 71 (by decide)).trans (by rw [hc]; decide)
          have q103 : ((s[a + k].toNat : Int) == 103) = false := (u8k 103 (by decide)).trans (by rw [hc]; decide)
          have HY := num_unit 1 1024 1073741824 hrel.out hsp hk12 (by rw [(hdK_tl s (a + k)).1 hlt, hc]; rfl) (by decide) (by decide) (by decide) (by decide)
          have hlm : (1099511627776 : Int).tdiv 1024 = 1073741824 := by decide
          clear hrel hsp hc
          by_cases hlim : 1073741824 < N
          · have hX := Lib.hid (HY.1 hlim)
            have e3 : decide ((1073741824 : Int) < (N : Int)) = true := decide_eq_true (by omega)
            clear HY HL HD
            go_wp2_with (go_at_call 93; (with_reducible refine (HE.out _).mono ?_); rintro e w1 ⟨rfl, rfl⟩)
            go_ret2
            exact ⟨by rw [hX.out]; rfl, rfl⟩
          · have HX := Lib.hid (HY.2 hlim)
            have e3 : decide ((1073741824 : Int) < (N : Int)) = false := decide_eq_false (by omega)
            have e4 : decide ((1099511627776 : Int) < (N : Int) * 1024) = false := decide_eq_false (by omega)
            clear HY
            -- the check of what follows: p the place, v the value, n the length, X how the result is told
            by_cases hp : a + k + 1 < s.size
            · have e2 : decide (((a + k + 1 : Nat) : Int) < (s.size : Int)) = true := decide_eq_true (by omega)
              have hL := HL.out s[a + k + 1]
              have hD := HD.out s[a + k + 1]
              cases hl : isLet s[a + k + 1] with
              | true =>
                have hX := Lib.hid (((HX.out).2.1 hp).1 (by unfold isWd; rw [hl]; rfl))
                rw [hl] at hL
                have HG := Lib.hid hL
                clear hL hD hl HX
                go_wp2_with (first
            | (go_at_call 124; (with_reducible refine (HG.out _).mono ?_); rintro e w1 ⟨rfl, rfl⟩)
            | (go_at_call 93; (with_reducible refine (HE.out _).mono ?_); rintro e w1 ⟨rfl, rfl⟩))
                go_ret2
                exact ⟨by rw [hX.out]; rfl, rfl⟩
              | false =>
                cases hd : isDig s[a + k + 1] with
                | true =>
                  have hX := Lib.hid (((HX.out).2.1 hp).1 (by unfold isWd; rw [hl, hd]; rfl))
                  rw [hl] at hL
                  rw [hd] at hD
                  have HG := Lib.hid hL
                  have HE2 := Lib.hid hD
                  clear hL hD hl hd HX
                  go_wp2_with (first
            | (go_at_call 124; (with_reducible refine (HG.out _).mono ?_); rintro e w1 ⟨rfl, rfl⟩)
            | (go_at_call 93; (with_reducible refine (HE.out _).mono ?_); rintro e w1 ⟨rfl, rfl⟩)
            | (go_at_call 93; (with_reducible refine (HE2.out _).mono ?_); rintro e w1 ⟨rfl, rfl⟩))
                  go_ret2
                  exact ⟨by rw [hX.out]; rfl, rfl⟩
                | false =>
                  have hX := Lib.hid (((HX.out).2.1 hp).2 (by unfold isWd; rw [hl, hd]; rfl))
                  rw [hl] at hL
                  rw [hd] at hD
                  have HG := Lib.hid hL
                  have HE2 := Lib.hid hD
                  clear hL hD hl hd HX
                  go_wp2_with (first
            | (go_at_call 124; (with_reducible refine (HG.out _).mono ?_); rintro e w1 ⟨rfl, rfl⟩)
            | (go_at_call 93; (with_reducible refine (HE.out _).mono ?_); rintro e w1 ⟨rfl, rfl⟩)
            | (go_at_call 93; (with_reducible refine (HE2.out _).mono ?_); rintro e w1 ⟨rfl, rfl⟩))
                  go_ret2
                  exact ⟨by rw [hX.out]; rfl, rfl⟩
            · have e2 : decide (((a + k + 1 : Nat) : Int) < (s.size : Int)) = false := decide_eq_false (by omega)
              have hX := Lib.hid ((HX.out).2.2 hp)
              clear HX
              go_wp2_with (go_at_call 93; (with_reducible refine (HE.out _).mono ?_); rintro e w1 ⟨rfl, rfl⟩)
              go_ret2
              exact ⟨by rw [hX.out]; rfl, rfl⟩
        ·
          have q75 : ((s[a + k].toNat : Int) == 75) = false := (u8k 75 (by decide)).trans (by rw [hc]; decide)
          have q107 : ((s[a + k].toNat : Int) == 107) = false := (u8k 107 (by decide)).trans (by rw [hc]; decide)
          have q77 : ((s[a + k].toNat : Int) == 77) = true := (u8k 77 (by decide)).trans (by rw [hc]; decide)
          have q109 : ((s[a + k].toNat : Int) == 109) = false := (u8k 109 (by decide)).trans (by rw [hc]; decide)
          have q71 : ((s[a + k].toNat : Int) == 71) = false := (u8k 71 (by decide)).trans (by rw [hc]; decide)
          have q103 : ((s[a + k].toNat : Int) == 103) = false := (u8k 103 (by decide)).trans (by rw [hc]; decide)
          have HY := num_unit 2 1048576 1048576 hrel.out hsp hk12 (by rw [(hdK_tl s (a + k)).1 hlt, hc]; rfl) (by decide) (by decide) (by decide) (by decide)
          have hlm : (1099511627776 : Int).tdiv 1048576 = 1048576 := by decide
          clear hrel hsp hc
          by_cases hlim : 1048576 < N
          · have hX := Lib.hid (HY.1 hlim)
            have e3 : decide ((1048576 : Int) < (N : Int)) = true := decide_eq_true (by omega)
            clear HY HL HD
            go_wp2_with (go_at_call 93; (with_reducible refine (HE.out _).mono ?_); rintro e w1 ⟨rfl, rfl⟩)
            go_ret2
            exact ⟨by rw [hX.out]; rfl, rfl⟩
          · have HX := Lib.hid (HY.2 hlim)
            have e3 : decide ((1048576 : Int) < (N : Int)) = false := decide_eq_false (by omega)
            have e4 : decide ((1099511627776 : Int) < (N : Int) * 1048576) = false := decide_eq_false (by omega)
            clear HY
            -- the check of what follows: p the place, v the value, n the length, X how the result is told
            by_cases hp : a + k + 1 < s.size
            · have e2 : decide (((a + k + 1 : Nat) : Int) < (s.size : Int)) = true := decide_eq_true (by omega)
              have hL := HL.out s[a + k + 1]
              have hD := HD.out s[a + k + 1]
              cases hl : isLet s[a + k + 1] with
              | true =>
                have hX := Lib.hid (((HX.out).2.1 hp).1 (by unfold isWd; rw [hl]; rfl))
                rw [hl] at hL
                have HG := Lib.hid hL
                clear hL hD hl HX
                go_wp2_with (first
            | (go_at_call 124; (with_reducible refine (HG.out _).mono ?_); rintro e w1 ⟨rfl, rfl⟩)
            | (go_at_call 93; (with_reducible refine (HE.out _).mono ?_); rintro e w1 ⟨rfl, rfl⟩))
                go_ret2
                exact ⟨by rw [hX.out]; rfl, rfl⟩
              | false =>
                cases hd : isDig s[a + k + 1] with
                | true =>
                  have hX := Lib.hid (((HX.out).2.1 hp).1 (by unfold isWd; rw [hl, hd]; rfl))
                  rw [hl] at hL
                  rw [hd] at hD
                  have HG := Lib.hid hL
                  have HE2 := Lib.hid hD
                  clear hL hD hl hd HX
                  go_wp2_with (first
            | (go_at_call 124; (with_reducible refine (HG.out _).mono ?_); rintro e w1 ⟨rfl, rfl⟩)
            | (go_at_call 93; (with_reducible refine (HE.out _).mono ?_); rintro e w1 ⟨rfl, rfl⟩)
            | (go_at_call 93; (with_reducible refine (HE2.out _).mono ?_); rintro e w1 ⟨rfl, rfl⟩))
                  go_ret2
                  exact ⟨by rw [hX.out]; rfl, rfl⟩
                | false =>
                  have hX := Lib.hid (((HX.out).2.1 hp).2 (by unfold isWd; rw [hl, hd]; rfl))
                  rw [hl] at hL
                  rw [hd] at hD
                  have HG := Lib.hid hL
                  have HE2 := Lib.hid hD
                  clear hL hD hl hd HX
                  go_wp2_with (first
            | (go_at_call 124; (with_reducible refine (HG.out _).mono ?_); rintro e w1 ⟨rfl, rfl⟩)
            | (go_at_call 93; (with_reducible refine (HE.out _).mono ?_); rintro e w1 ⟨rfl, rfl⟩)
            | (go_at_call 93; (with_reducible refine (HE2.out _).mono ?_); rintro e w1 ⟨rfl, rfl⟩))
                  go_ret2
                  exact ⟨by rw [hX.out]; rfl, rfl⟩
            · have e2 : decide (((a + k + 1 : Nat) : Int) < (s.size : Int)) = false := decide_eq_false (by omega)
              have hX := Lib.hid ((HX.out).2.2 hp)
              clear HX
              go_wp2_with (go_at_call 93; (with_reducible refine (HE.out _).mono ?_); rintro e w1 ⟨rfl, rfl⟩)
              go_ret2
              exact ⟨by rw [hX.out]; rfl, rfl⟩
        ·
          have q75 : ((s[a + k].toNat : Int) == 75) = false := (u8k 75 (by decide)).trans (by rw [hc]; decide)
          have q107 : ((s[a + k].toNat : Int) == 107) = false := (u8k 107 (by decide)).trans (by rw [hc]; decide)
          have q77 : ((s[a + k].toNat : Int) == 77) = false := (u8k 77 (by decide)).trans (by rw [hc]; decide)
          have q109 : ((s[a + k].toNat : Int) == 109) = true := (u8k 109 (by decide)).trans (by rw [hc]; decide)
          have q71 : ((s[a + k].toNat : Int) == 71) = false := (u8k 71 (by decide)).trans (by rw [hc]; decide)
          have q103 : ((s[a + k].toNat : Int) == 103) = false := (u8k 103 (by decide)).trans (by rw [hc]; decide)
          have HY := num_unit 2 1048576 1048576 hrel.out hsp hk12 (by rw [(hdK_tl s (a + k)).1 hlt, hc]; rfl) (by decide) (by decide) (by decide) (by decide)
          have hlm : (1099511627776 : Int).tdiv 1048576 = 1048576 := by decide
          clear hrel hsp hc
          by_cases hlim : 1048576 < N
          · have hX := Lib.hid (HY.1 hlim)
            have e3 : decide ((1048576 : Int) < (N : Int)) = true := decide_eq_true (by omega)
            clear HY HL HD
            go_wp2_with (go_at_call 93; (with_reducible refine (HE.out _).mono ?_); rintro e w1 ⟨rfl, rfl⟩)
            go_ret2
            exact ⟨by rw [hX.out]; rfl, rfl⟩
          · have HX := Lib.hid (HY.2 hlim)
            have e3 : decide ((1048576 : Int) < (N : Int)) = false := decide_eq_false (by omega)
            have e4 : decide ((1099511627776 : Int) < (N : Int) * 1048576) = false := decide_eq_false (by omega)
            clear HY
            -- the check of what follows: p the place, v the value, n the length, X how the result is told
            by_cases hp : a + k + 1 < s.size
            · have e2 : decide (((a + k + 1 : Nat) : Int) < (s.size : Int)) = true := decide_eq_true (by omega)
              have hL := HL.out s[a + k + 1]
              have hD := HD.out s[a + k + 1]
              cases hl : isLet s[a + k + 1] with
              | true =>
                have hX := Lib.hid (((HX.out).2.1 hp).1 (by unfold isWd; rw [hl]; rfl))
                rw [hl] at hL
                have HG := Lib.hid hL
                clear hL hD hl HX
                go_wp2_with (first
            | (go_at_call 124; (with_reducible refine (HG.out _).mono ?_); rintro e w1 ⟨rfl, rfl⟩)
            | (go_at_call 93; (with_reducible refine (HE.out _).mono ?_); rintro e w1 ⟨rfl, rfl⟩))
                go_ret2
                exact ⟨by rw [hX.out]; rfl, rfl⟩
              | false =>
                cases hd : isDig s[a + k + 1] with
                | true =>
                  have hX := Lib.hid (((HX.out).2.1 hp).1 (by unfold isWd; rw [hl, hd]; rfl))
                  rw [hl] at hL
                  rw [hd] at hD
                  have HG := Lib.hid hL
                  have HE2 := Lib.hid hD
                  clear hL hD hl hd HX
                  go_wp2_with (first
            | (go_at_call 124; (with_reducible refine (HG.out _).mono ?_); rintro e w1 ⟨rfl, rfl⟩)
            | (go_at_call 93; (with_reducible refine (HE.out _).mono ?_); rintro e w1 ⟨rfl, rfl⟩)
            | (go_at_call 93; (with_reducible refine (HE2.out _).mono ?_); rintro e w1 ⟨rfl, rfl⟩))
                  go_ret2
                  exact ⟨by rw [hX.out]; rfl, rfl⟩
                | false =>
                  have hX := Lib.hid (((HX.out).2.1 hp).2 (by unfold isWd; rw [hl, hd]; rfl))
                  rw [hl] at hL
                  rw [hd] at hD
                  have HG := Lib.hid hL
                  have HE2 := Lib.hid hD
                  clear hL hD hl hd HX
                  go_wp2_with (first
            | (go_at_call 124; (with_reducible refine (HG.out _).mono ?_); rintro e w1 ⟨rfl, rfl⟩)
            | (go_at_call 93; (with_reducible refine (HE.out _).mono ?_); rintro e w1 ⟨rfl, rfl⟩)
            | (go_at_call 93; (with_reducible refine (HE2.out _).mono ?_); rintro e w1 ⟨rfl, rfl⟩))
                  go_ret2
                  exact ⟨by rw [hX.out]; rfl, rfl⟩
            · have e2 : decide (((a + k + 1 : Nat) : Int) < (s.size : Int)) = false := decide_eq_false (by omega)
              have hX := Lib.hid ((HX.out).2.2 hp)
              clear HX
              go_wp2_with (go_at_call 93; (with_reducible refine (HE.out _).mono ?_); rintro e w1 ⟨rfl, rfl⟩)
              go_ret2
              exact ⟨by rw [hX.out]; rfl, rfl⟩
        ·
          have q75 : ((s[a + k].toNat : Int) == 75) = false := (u8k 75 (by decide)).trans (by rw [hc]; decide)
          have q107 : ((s[a + k].toNat : Int) == 107) = false := (u8k 107 (by decide)).trans (by rw [hc]; decide)
          have q77 : ((s[a + k].toNat : Int) == 77) = false := (u8k 77 (by decide)).trans (by rw [hc]; decide)
          have q109 : ((s[a + k].toNat : Int) == 109) = false := (u8k 109 (by decide)).trans (by rw [hc]; decide)
          have q71 : ((s[a + k].toNat : Int) == 71) = true := (u8k 71 (by decide)).trans (by rw [hc]; decide)
          have q103 : ((s[a + k].toNat : Int) == 103) = false := (u8k 103 (by decide)).trans (by rw [hc]; decide)
          have HY := num_unit 3 1073741824 1024 hrel.out hsp hk12 (by rw [(hdK_tl s (a + k)).1 hlt, hc]; rfl) (by decide) (by decide) (by decide) (by decide)
          have hlm : (1099511627776 : Int).tdiv 1073741824 = 1024 := by decide
          clear hrel hsp hc
          by_cases hlim : 1024 < N
          · have hX := Lib.hid (HY.1 hlim)
            have e3 : decide ((1024 : Int) < (N : Int)) = true := decide_eq_true (by omega)
            clear HY HL HD
            go_wp2_with (go_at_call 93; (with_reducible refine (HE.out _).mono ?_); rintro e w1 ⟨rfl, rfl⟩)
            go_ret2
            exact ⟨by rw [hX.out]; rfl, rfl⟩
          · have HX := Lib.hid (HY.2 hlim)
            have e3 : decide ((1024 : Int) < (N : Int)) = false := decide_eq_false (by omega)
            have e4 : decide ((1099511627776 : Int) < (N : Int) * 1073741824) = false := decide_eq_false (by omega)
            clear HY
            -- the check of what follows: p the place, v the value, n the length, X how the result is told
            by_cases hp : a + k + 1 < s.size
            · have e2 : decide (((a + k + 1 : Nat) : Int) < (s.size : Int)) = true := decide_eq_true (by omega)
              have hL := HL.out s[a + k + 1]
              have hD := HD.out s[a + k + 1]
              cases hl : isLet s[a + k + 1] with
              | true =>
                have hX := Lib.hid (((HX.out).2.1 hp).1 (by unfold isWd; rw [hl]; rfl))
                rw [hl] at hL
                have HG := Lib.hid hL
                clear hL hD hl HX
                go_wp2_with (first
            | (go_at_call 124; (with_reducible refine (HG.out _).mono ?_); rintro e w1 ⟨rfl, rfl⟩)
            | (go_at_call 93; (with_reducible refine (HE.out _).mono ?_); rintro e w1 ⟨rfl, rfl⟩))
                go_ret2
                exact ⟨by rw [hX.out]; rfl, rfl⟩
              | false =>
                cases hd : isDig s[a + k + 1] with
                | true =>
                  have hX := Lib.hid (((HX.out).2.1 hp).1 (by unfold isWd; rw [hl, hd]; rfl))
                  rw [hl] at hL
                  rw [hd] at hD
                  have HG := Lib.hid hL
                  have HE2 := Lib.hid hD
                  clear hL hD hl hd HX
                  go_wp2_with (first
            | (go_at_call 124; (with_reducible refine (HG.out _).mono ?_); rintro e w1 ⟨rfl, rfl⟩)
            | (go_at_call 93; (with_reducible refine (HE.out _).mono ?_); rintro e w1 ⟨rfl, rfl⟩)
            | (go_at_call 93; (with_reducible refine (HE2.out _).mono ?_); rintro e w1 ⟨rfl, rfl⟩))
                  go_ret2
                  exact ⟨by rw [hX.out]; rfl, rfl⟩
                | false =>
                  have hX := Lib.hid (((HX.out).2.1 hp).2 (by unfold isWd; rw [hl, hd]; rfl))
                  rw [hl] at hL
                  rw [hd] at hD
                  have HG := Lib.hid hL
                  have HE2 := Lib.hid hD
                  clear hL hD hl hd HX
                  go_wp2_with (first
            | (go_at_call 124; (with_reducible refine (HG.out _).mono ?_); rintro e w1 ⟨rfl, rfl⟩)
            | (go_at_call 93; (with_reducible refine (HE.out _).mono ?_); rintro e w1 ⟨rfl, rfl⟩)
            | (go_at_call 93; (with_reducible refine (HE2.out _).mono ?_); rintro e w1 ⟨rfl, rfl⟩))
                  go_ret2
                  exact ⟨by rw [hX.out]; rfl, rfl⟩
            · have e2 : decide (((a + k + 1 : Nat) : Int) < (s.size : Int)) = false := decide_eq_false (by omega)
              have hX := Lib.hid ((HX.out).2.2 hp)
              clear HX
              go_wp2_with (go_at_call 93; (with_reducible refine (HE.out _).mono ?_); rintro e w1 ⟨rfl, rfl⟩)
              go_ret2
              exact ⟨by rw [hX.out]; rfl, rfl⟩
        ·
          have q75 : ((s[a + k].toNat : Int) == 75) = false := (u8k 75 (by decide)).trans (by rw [hc]; decide)
          have q107 : ((s[a + k].toNat : Int) == 107) = false := (u8k 107 (by decide)).trans (by rw [hc]; decide)
          have q77 : ((s[a + k].toNat : Int) == 77) = false := (u8k 77 (by decide)).trans (by rw [hc]; decide)
          have q109 : ((s[a + k].toNat : Int) == 109) = false := (u8k 109 (by decide)).trans (by rw [hc]; decide)
          have q71 : ((s[a + k].toNat : Int) == 71) = false := (u8k 71 (by decide)).trans (by rw [hc]; decide)
          have q103 : ((s[a + k].toNat : Int) == 103) = true := (u8k 103 (by decide)).trans (by rw [hc]; decide)
          have HY := num_unit 3 1073741824 1024 hrel.out hsp hk12 (by rw [(hdK_tl s (a + k)).1 hlt, hc]; rfl) (by decide) (by decide) (by decide) (by decide)
          have hlm : (1099511627776 : Int).tdiv 1073741824 = 1024 := by decide
          clear hrel hsp hc
          by_cases hlim : 1024 < N
          · have hX := Lib.hid (HY.1 hlim)
            have e3 : decide ((1024 : Int) < (N : Int)) = true := decide_eq_true (by omega)
            clear HY HL HD
            go_wp2_with (go_at_call 93; (with_reducible refine (HE.out _).mono ?_); rintro e w1 ⟨rfl, rfl⟩)
            go_ret2
            exact ⟨by rw [hX.out]; rfl, rfl⟩
          · have HX := Lib.hid (HY.2 hlim)
            have e3 : decide ((1024 : Int) < (N : Int)) = false := decide_eq_false (by omega)
            have e4 : decide ((1099511627776 : Int) < (N : Int) * 1073741824) = false := decide_eq_false (by omega)
            clear HY
            -- the check of what follows: p the place, v the value, n the length, X how the result is told
            by_cases hp : a + k + 1 < s.size
            · have e2 : decide (((a + k + 1 : Nat) : Int) < (s.size : Int)) = true := decide_eq_true (by omega)
              have hL := HL.out s[a + k + 1]
              have hD := HD.out s[a + k + 1]
              cases hl : isLet s[a + k + 1] with
              | true =>
                have hX := Lib.hid (((HX.out).2.1 hp).1 (by unfold isWd; rw [hl]; rfl))
                rw [hl] at hL
                have HG := Lib.hid hL
                clear hL hD hl HX
                go_wp2_with (first
            | (go_at_call 124; (with_reducible refine (HG.out _).mono ?_); rintro e w1 ⟨rfl, rfl⟩)
            | (go_at_call 93; (with_reducible refine (HE.out _).mono ?_); rintro e w1 ⟨rfl, rfl⟩))
                go_ret2
                exact ⟨by rw [hX.out]; rfl, rfl⟩
              | false =>
                cases hd : isDig s[a + k + 1] with
                | true =>
                  have hX := Lib.hid (((HX.out).2.1 hp).1 (by unfold isWd; rw [hl, hd]; rfl))
                  rw [hl] at hL
                  rw [hd] at hD
                  have HG := Lib.hid hL
                  have HE2 := Lib.hid hD
                  clear hL hD hl hd HX
                  go_wp2_with (first
            | (go_at_call 124; (with_reducible refine (HG.out _).mono ?_); rintro e w1 ⟨rfl, rfl⟩)
            | (go_at_call 93; (with_reducible refine (HE.out _).mono ?_); rintro e w1 ⟨rfl, rfl⟩)
            | (go_at_call 93; (with_reducible refine (HE2.out _).mono ?_); rintro e w1 ⟨rfl, rfl⟩))
                  go_ret2
                  exact ⟨by rw [hX.out]; rfl, rfl⟩
                | false =>
                  have hX := Lib.hid (((HX.out).2.1 hp).2 (by unfold isWd; rw [hl, hd]; rfl))
                  rw [hl] at hL
                  rw [hd] at hD
                  have HG := Lib.hid hL
                  have HE2 := Lib.hid hD
                  clear hL hD hl hd HX
                  go_wp2_with (first
            | (go_at_call 124; (with_reducible refine (HG.out _).mono ?_); rintro e w1 ⟨rfl, rfl⟩)
            | (go_at_call 93; (with_reducible refine (HE.out _).mono ?_); rintro e w1 ⟨rfl, rfl⟩)
            | (go_at_call 93; (with_reducible refine (HE2.out _).mono ?_); rintro e w1 ⟨rfl, rfl⟩))
                  go_ret2
                  exact ⟨by rw [hX.out]; rfl, rfl⟩
            · have e2 : decide (((a + k + 1 : Nat) : Int) < (s.size : Int)) = false := decide_eq_false (by omega)
              have hX := Lib.hid ((HX.out).2.2 hp)
              clear HX
              go_wp2_with (go_at_call 93; (with_reducible refine (HE.out _).mono ?_); rintro e w1 ⟨rfl, rfl⟩)
              go_ret2
              exact ⟨by rw [hX.out]; rfl, rfl⟩
        · have HX := Lib.hid ((num_plain hrel.out hsp hk12 (by rw [(hdK_tl s (a + k)).1 hlt]; unfold kmg; rw [if_neg (by intro hx; exact hc (by rcases hx with hx | hx <;> simp [hx])), if_neg (by intro hx; exact hc (by rcases hx with hx | hx <;> simp [hx])), if_neg (by intro hx; exact hc (by rcases hx with hx | hx <;> simp [hx]))])).2 (by omega))
          have q75 : ((s[a + k].toNat : Int) == 75) = false := (u8k 75 (by decide)).trans (decide_eq_false fun hx => hc (.inl hx))
          have q107 : ((s[a + k].toNat : Int) == 107) = false := (u8k 107 (by decide)).trans (decide_eq_false fun hx => hc (.inr (.inl hx)))
          have q77 : ((s[a + k].toNat : Int) == 77) = false := (u8k 77 (by decide)).trans (decide_eq_false fun hx => hc (.inr (.inr (.inl hx))))
          have q109 : ((s[a + k].toNat : Int) == 109) = false := (u8k 109 (by decide)).trans (decide_eq_false fun hx => hc (.inr (.inr (.inr (.inl hx)))))
          have q71 : ((s[a + k].toNat : Int) == 71) = false := (u8k 71 (by decide)).trans (decide_eq_false fun hx => hc (.inr (.inr (.inr (.inr (.inl hx))))))
          have q103 : ((s[a + k].toNat : Int) == 103) = false := (u8k 103 (by decide)).trans (decide_eq_false fun hx => hc (.inr (.inr (.inr (.inr (.inr hx))))))
          have e3 : decide ((1099511627776 : Int) < (N : Int)) = false := decide_eq_false (by omega)
          clear hrel hsp hc
          -- the check of what follows: p the place, v the value, n the length, X how the result is told
          by_cases hp : a + k < s.size
          · have e2 : decide (((a + k : Nat) : Int) < (s.size : Int)) = true := decide_eq_true (by omega)
            have hL := HL.out s[a + k]
            have hD := HD.out s[a + k]
            cases hl : isLet s[a + k] with
            | true =>
              have hX := Lib.hid (((HX.out).2.1 hp).1 (by unfold isWd; rw [hl]; rfl))
              rw [hl] at hL
              have HG := Lib.hid hL
              clear hL hD hl HX
              go_wp2_with (first
            | (go_at_call 124; (with_reducible refine (HG.out _).mono ?_); rintro e w1 ⟨rfl, rfl⟩)
            | (go_at_call 93; (with_reducible refine (HE.out _).mono ?_); rintro e w1 ⟨rfl, rfl⟩))
              go_ret2
              exact ⟨by rw [hX.out]; rfl, rfl⟩
            | false =>
              have hd := HDF.out
              have hX := Lib.hid (((HX.out).2.1 hp).2 (by unfold isWd; rw [hl, hd]; rfl))
              rw [hl] at hL
              rw [hd] at hD
              have HG := Lib.hid hL
              have HE2 := Lib.hid hD
              clear hL hD hl hd HX
              go_wp2_with (first
            | (go_at_call 124; (with_reducible refine (HG.out _).mono ?_); rintro e w1 ⟨rfl, rfl⟩)
            | (go_at_call 93; (with_reducible refine (HE.out _).mono ?_); rintro e w1 ⟨rfl, rfl⟩)
            | (go_at_call 93; (with_reducible refine (HE2.out _).mono ?_); rintro e w1 ⟨rfl, rfl⟩))
              go_ret2
              exact ⟨by rw [hX.out]; rfl, rfl⟩
          · exact absurd hlt hp
    · have hsp := spanF_end hrel.out.span hlt
      have HX := Lib.hid ((num_plain hrel.out hsp hk12 ((hdK_tl s (a + k)).2 hlt)).2 (by omega))
      have e1 : decide (((a + k : Nat) : Int) < (s.size : Int)) = false := decide_eq_false (by omega)
      have e3 : decide ((1099511627776 : Int) < (N : Int)) = false := decide_eq_false (by omega)
      have hX := Lib.hid ((HX.out).2.2 hlt)
      clear HX hrel hsp
      go_wp2
      go_ret2
      exact ⟨by rw [hX.out]; rfl, rfl⟩
end Go.Proofs.YtgimgkjggaijoaaGreatDoor
namespace Go.Proofs.YtgimgkjggaijoaaGreatDoor
open Go.RowKit Pk Lx

def TokA (k : Int) (t : ByteArray) (n x m : Int) : Value := .tuple #[.agg #[.int .i64 k, .string t, .int .i64 n, .int .i64 x], .int .i64 m]
def WordIs (o : Option (Tok × Nat)) (a : Nat) (w : World) (e : Ending) (w' : World) : Prop :=
  (∃ k t n x m, e = .returned (TokA k t n x m) ∧ match o with | none => m = -1 | some p => k = (p.1.k : Nat) ∧ t = toB p.1.t ∧ n = (p.1.n : Nat) ∧ x = (a : Int) ∧ m = ((a + p.2 : Nat) : Int)) ∧ Below w.heap.size w w'
theorem WordIs.none_ {o : Option (Tok × Nat)} {a : Nat} {w w' : World} {k : Int} {t : ByteArray} {n x : Int} (h : o = none) (hb : Below w.heap.size w w') : WordIs o a w (.returned (TokA k t n x (-1))) w' := by
  subst h; exact ⟨⟨k, t, n, x, -1, rfl, rfl⟩, hb⟩
theorem WordIs.some_ {o : Option (Tok × Nat)} {a : Nat} {w w' : World} {k n m : Nat} {t : List UInt8} {T : ByteArray} {K N M : Int} (h : o = some (⟨k, t, n⟩, m)) (hK : K = (k : Int)) (hN : N = (n : Int)) (hM : M = ((a + m : Nat) : Int)) (hT : T = toB t) (hb : Below w.heap.size w w') : WordIs o a w (.returned (TokA K T N a M)) w' := by
  subst h; exact ⟨⟨K, T, N, a, M, rfl, hK, hT, hN, rfl, hM⟩, hb⟩
set_option maxHeartbeats 8000000 in
set_option maxRecDepth 100000 in
theorem wordQ_any (s : ByteArray) (a : Nat) (w : World) (hs : s.size ≤ 5000000) (h : a < s.size) : Calls Tryz.prog 50 #[.string s, .int .i64 a] w (WordIs (tokenL (tl s a)) a w) := by
  have hI : ∀ w, Calls Tryz.prog 90 #[.string s, .int .i64 a] w fun e w' => e = .returned (.int .i64 ((a : Int) + (identL (tl s a) : Int))) ∧ w = w' := fun w => nameQ_any s a w (by omega) (by omega)
  have hile := identL_le (tl s a)
  rw [tl_length] at hile
  have hX0 : tokenL (tl s a) = if identL (tl s a) = 4 ∧ lowL ((tl s a).take 4) = textW ∧ (tl s (a + 4)).head? = some 58 then (multiL (tl s (a + 5))).map fun p => (⟨4, p.1, 0⟩, 5 + p.2)
    else if 0 < identL (tl s a) then some (⟨1, lowL ((tl s a).take (identL (tl s a))), 0⟩, identL (tl s a))
    else if s[a] = 58 ∧ 0 < identL (tl s (a + 1)) then some (⟨2, lowL ((tl s (a + 1)).take (identL (tl s (a + 1)))), 0⟩, 1 + identL (tl s (a + 1)))
    else if isDig s[a] = true then (numL (tl s a)).map fun p => (⟨3, [], p.1⟩, p.2)
    else if s[a] = 34 then (quoL (tl s (a + 1))).map fun p => (⟨4, p.1, 0⟩, 1 + p.2)
    else if isMk s[a] = true then some (⟨5, [s[a]], 0⟩, 1) else none := by
    unfold tokenL
    rw [tl_drop, tl_drop]
    rw [tl_cons s a h]
  generalize tokenL (tl s a) = X at *
  generalize hn : identL (tl s a) = n at *
  have HI := Lib.hid hI
  clear hI hn
  have hwA : Below w.heap.size w (w.alloc zLex) := (Below.refl _ w).alloc (Nat.le_refl _) _
  have hkA : (w.alloc zLex).heap[w.heap.size]? = some (.cells #[.int .i64 0, .string ⟨#[]⟩, .int .i64 0, .int .i64 0] 41 (0, 0)) := heap_alloc_new w _
  by_cases hn0 : 0 < n
  · have hlow := fun w => lowerQ_any (s.extract a (a + n)) w (by rw [ext_size]; omega)
    have e2 := tl_take s a n (by omega)
    rw [e2] at hlow
    obtain ⟨T, hTe, hTd, -⟩ := arrE (lowL ((tl s a).take n))
    have hT2 : toB (lowL ((tl s a).take n)) = T := hTe.symm
    rw [hT2] at hlow
    have HT := Lib.hid hT2
    have HL := Lib.hid hlow
    by_cases h4 : n = 4
    · have HN4 := Lib.hid h4
      have hTx : (T.toList == [116, 101, 120, 116]) = decide (lowL ((tl s a).take 4) = textW) := by
        rw [Lib.toList_data, hTd, h4, Bool.eq_iff_iff, beq_iff_eq, decide_eq_true_iff]; rfl
      by_cases h5 : lowL ((tl s a).take 4) = textW
      · rw [decide_eq_true h5] at hTx
        by_cases h6 : (tl s (a + 4)).head? = some 58
        · rw [if_pos ⟨h4, h5, h6⟩] at hX0
          have hP : hasL [58] (tl s (a + n)) = true := by rw [h4, hasL1]; exact decide_eq_true h6
          have HP := Lib.hid (hasC_of (i := (a : Int) + (n : Int)) (m := a + n) (by omega) (X := ⟨#[58]⟩) (b := true) (by omega) (by decide) (by decide) (by omega) hP)
          have z5 : a + n < s.size := by
            rcases Nat.lt_or_ge (a + n) s.size with g | g
            · exact g
            · rw [hasL_end 58 [] s (a + n) (by omega)] at hP; cases hP
          have hM := fun w1 => linesQ_any s (a + n + 1) w1 (by omega) (by omega)
          unfold PairIs LinT at hM
          have e5 : tl s (a + 5) = tl s (a + n + 1) := by rw [h4]
          rw [e5] at hX0
          clear hlow e2 hTe hTd hT2 hP h5 h6 hile h4 e5
          cases hml : multiL (tl s (a + n + 1)) with
          | none =>
            rw [hml] at hM hX0
            have HX := Lib.hid (show X = none from hX0)
            have HM := Lib.hid (show ∀ w1, Calls Tryz.prog 92 #[.string s, .int .i64 ((a : Int) + (n : Int) + 1)] w1 fun e w' => e = .returned (.tuple #[.string ⟨#[]⟩, .int .i64 (-1)]) ∧ Below w1.heap.size w1 w' from hM)
            clear hM hX0 hml
            go_enter Tryz.func50, Tryz.ntmps50
            go_wp2_with fail
            generalize hw0 : w.alloc (.cells #[.int .i64 0, .string ⟨#[]⟩, .int .i64 0, .int .i64 0] 41) = w0 at *
            replace hwA : Below w.heap.size w w0 := by rw [← hw0]; exact hwA
            replace hkA : w0.heap[w.heap.size]? = some (.cells #[.int .i64 0, .string ⟨#[]⟩, .int .i64 0, .int .i64 0] 41 (0, 0)) := by rw [← hw0]; exact hkA
            clear hw0
            have tb : Below w0.heap.size w0 w0 := Below.refl _ _
            obtain ⟨⟨c0, c1, c2, c3⟩, f0, f1, f2, f3⟩ := four_later hkA tb
            go_wp2_with (first | (go_at_call 90; (with_reducible refine (HI.out _).mono ?_); rintro e w1 ⟨rfl, rfl⟩) | (go_at_call 90; (with_reducible refine (HI2.out _).mono ?_); rintro e w1 ⟨rfl, rfl⟩) | (go_at_call 91; ((with_reducible refine (HL.out _).mono ?_); rintro e w1 ⟨rfl, hb1⟩; have tb := tb.trans (hb1.mono tb.size); obtain ⟨⟨c0, c1, c2, c3⟩, f0, f1, f2, f3⟩ := four_later hkA tb)) | (go_at_call 89; (with_reducible refine (HP.out _).mono ?_); rintro e w1 ⟨rfl, rfl⟩) | (go_at_call 92; ((with_reducible refine (HM.out _).mono ?_); rintro e w1 ⟨rfl, hb1⟩; have tb := tb.trans (hb1.mono tb.size); obtain ⟨⟨c0, c1, c2, c3⟩, f0, f1, f2, f3⟩ := four_later hkA tb)) | (go_at_call 93; (with_reducible refine (HD.out _).mono ?_); rintro e w1 ⟨rfl, rfl⟩) | (go_at_call 94; (with_reducible refine (HNu.out _).mono ?_); rintro e w1 ⟨rfl, rfl⟩) | (go_at_call 95; ((with_reducible refine (HQ.out _).mono ?_); rintro e w1 ⟨rfl, hb1⟩; have tb := tb.trans (hb1.mono tb.size); obtain ⟨⟨c0, c1, c2, c3⟩, f0, f1, f2, f3⟩ := four_later hkA tb)))
            refine bodyPost_ret (v := TokA 4 ⟨#[]⟩ 0 (a) (-1)) (by simp [TokA, results, Tryz.results50, go_sem, *]) rfl ?_
            exact WordIs.none_ HX.out (set4X (hwA.trans (tb.mono hwA.size)) (Nat.le_refl _) _ _ _ _)
          | some p =>
            rw [hml] at hM hX0
            obtain ⟨pv, pn⟩ := p
            have HX := Lib.hid (show X = some (⟨4, pv, 0⟩, 5 + pn) from hX0)
            obtain ⟨V, hVe, -, -⟩ := arrE pv
            have hV2 : toB pv = V := hVe.symm
            have hM : ∀ w1, Calls Tryz.prog 92 #[.string s, .int .i64 ((a : Int) + (n : Int) + 1)] w1 fun e w' => e = .returned (.tuple #[.string (toB pv), .int .i64 ((a + n + 1 + pn : Nat) : Int)]) ∧ Below w1.heap.size w1 w' := hM
            rw [hV2] at hM
            obtain ⟨qn, hqn⟩ : ∃ qn, qn = a + n + 1 + pn := ⟨_, rfl⟩
            rw [← hqn] at hM
            have HM := Lib.hid hM
            have HT := Lib.hid hV2
            have HN4 := Lib.hid (show qn = a + (5 + pn) by have := HN4.out; omega)
            clear hM hX0 hml hVe hV2 hqn
            go_enter Tryz.func50, Tryz.ntmps50
            go_wp2_with fail
            generalize hw0 : w.alloc (.cells #[.int .i64 0, .string ⟨#[]⟩, .int .i64 0, .int .i64 0] 41) = w0 at *
            replace hwA : Below w.heap.size w w0 := by rw [← hw0]; exact hwA
            replace hkA : w0.heap[w.heap.size]? = some (.cells #[.int .i64 0, .string ⟨#[]⟩, .int .i64 0, .int .i64 0] 41 (0, 0)) := by rw [← hw0]; exact hkA
            clear hw0
            have tb : Below w0.heap.size w0 w0 := Below.refl _ _
            obtain ⟨⟨c0, c1, c2, c3⟩, f0, f1, f2, f3⟩ := four_later hkA tb
            go_wp2_with (first | (go_at_call 90; (with_reducible refine (HI.out _).mono ?_); rintro e w1 ⟨rfl, rfl⟩) | (go_at_call 90; (with_reducible refine (HI2.out _).mono ?_); rintro e w1 ⟨rfl, rfl⟩) | (go_at_call 91; ((with_reducible refine (HL.out _).mono ?_); rintro e w1 ⟨rfl, hb1⟩; have tb := tb.trans (hb1.mono tb.size); obtain ⟨⟨c0, c1, c2, c3⟩, f0, f1, f2, f3⟩ := four_later hkA tb)) | (go_at_call 89; (with_reducible refine (HP.out _).mono ?_); rintro e w1 ⟨rfl, rfl⟩) | (go_at_call 92; ((with_reducible refine (HM.out _).mono ?_); rintro e w1 ⟨rfl, hb1⟩; have tb := tb.trans (hb1.mono tb.size); obtain ⟨⟨c0, c1, c2, c3⟩, f0, f1, f2, f3⟩ := four_later hkA tb)) | (go_at_call 93; (with_reducible refine (HD.out _).mono ?_); rintro e w1 ⟨rfl, rfl⟩) | (go_at_call 94; (with_reducible refine (HNu.out _).mono ?_); rintro e w1 ⟨rfl, rfl⟩) | (go_at_call 95; ((with_reducible refine (HQ.out _).mono ?_); rintro e w1 ⟨rfl, hb1⟩; have tb := tb.trans (hb1.mono tb.size); obtain ⟨⟨c0, c1, c2, c3⟩, f0, f1, f2, f3⟩ := four_later hkA tb)))
            refine bodyPost_ret (v := TokA 4 V 0 a ((qn : Int))) (by simp [TokA, results, Tryz.results50, go_sem, *]) rfl ?_
            exact WordIs.some_ HX.out rfl rfl (by first | rfl | omega | (have := HN4.out; omega)) (by first | rfl | rw [HT.out] | exact HT.out.symm | exact HT.out) (set4X (hwA.trans (tb.mono hwA.size)) (Nat.le_refl _) _ _ _ _)
        · rw [if_neg (fun g => h6 g.2.2), if_pos hn0] at hX0
          have hP : hasL [58] (tl s (a + n)) = false := by rw [h4, hasL1]; exact decide_eq_false h6
          have HP := Lib.hid (hasC_of (i := (a : Int) + (n : Int)) (m := a + n) (by omega) (X := ⟨#[58]⟩) (b := false) (by omega) (by decide) (by decide) (by omega) hP)
          have HX := Lib.hid hX0
          clear hlow e2 hTe hTd hT2 hP h5 h6 hX0 h4
          go_enter Tryz.func50, Tryz.ntmps50
          go_wp2_with fail
          generalize hw0 : w.alloc (.cells #[.int .i64 0, .string ⟨#[]⟩, .int .i64 0, .int .i64 0] 41) = w0 at *
          replace hwA : Below w.heap.size w w0 := by rw [← hw0]; exact hwA
          replace hkA : w0.heap[w.heap.size]? = some (.cells #[.int .i64 0, .string ⟨#[]⟩, .int .i64 0, .int .i64 0] 41 (0, 0)) := by rw [← hw0]; exact hkA
          clear hw0
          have tb : Below w0.heap.size w0 w0 := Below.refl _ _
          obtain ⟨⟨c0, c1, c2, c3⟩, f0, f1, f2, f3⟩ := four_later hkA tb
          go_wp2_with (first | (go_at_call 90; (with_reducible refine (HI.out _).mono ?_); rintro e w1 ⟨rfl, rfl⟩) | (go_at_call 90; (with_reducible refine (HI2.out _).mono ?_); rintro e w1 ⟨rfl, rfl⟩) | (go_at_call 91; ((with_reducible refine (HL.out _).mono ?_); rintro e w1 ⟨rfl, hb1⟩; have tb := tb.trans (hb1.mono tb.size); obtain ⟨⟨c0, c1, c2, c3⟩, f0, f1, f2, f3⟩ := four_later hkA tb)) | (go_at_call 89; (with_reducible refine (HP.out _).mono ?_); rintro e w1 ⟨rfl, rfl⟩) | (go_at_call 92; ((with_reducible refine (HM.out _).mono ?_); rintro e w1 ⟨rfl, hb1⟩; have tb := tb.trans (hb1.mono tb.size); obtain ⟨⟨c0, c1, c2, c3⟩, f0, f1, f2, f3⟩ := four_later hkA tb)) | (go_at_call 93; (with_reducible refine (HD.out _).mono ?_); rintro e w1 ⟨rfl, rfl⟩) | (go_at_call 94; (with_reducible refine (HNu.out _).mono ?_); rintro e w1 ⟨rfl, rfl⟩) | (go_at_call 95; ((with_reducible refine (HQ.out _).mono ?_); rintro e w1 ⟨rfl, hb1⟩; have tb := tb.trans (hb1.mono tb.size); obtain ⟨⟨c0, c1, c2, c3⟩, f0, f1, f2, f3⟩ := four_later hkA tb)))
          refine bodyPost_ret (v := TokA 1 T 0 a ((a : Int) + (n : Int))) (by simp [TokA, results, Tryz.results50, go_sem, *]) rfl ?_
          exact WordIs.some_ HX.out rfl rfl (by first | rfl | omega | (have := HN4.out; omega)) (by first | rfl | rw [HT.out] | exact HT.out.symm | exact HT.out) (set4X (hwA.trans (tb.mono hwA.size)) (Nat.le_refl _) _ _ _ _)
      · rw [decide_eq_false h5] at hTx
        rw [if_neg (fun g => h5 g.2.1), if_pos hn0] at hX0
        have HX := Lib.hid hX0
        clear hlow e2 hTe hTd hT2 h5 hX0 h4
        go_enter Tryz.func50, Tryz.ntmps50
        go_wp2_with fail
        generalize hw0 : w.alloc (.cells #[.int .i64 0, .string ⟨#[]⟩, .int .i64 0, .int .i64 0] 41) = w0 at *
        replace hwA : Below w.heap.size w w0 := by rw [← hw0]; exact hwA
        replace hkA : w0.heap[w.heap.size]? = some (.cells #[.int .i64 0, .string ⟨#[]⟩, .int .i64 0, .int .i64 0] 41 (0, 0)) := by rw [← hw0]; exact hkA
        clear hw0
        have tb : Below w0.heap.size w0 w0 := Below.refl _ _
        obtain ⟨⟨c0, c1, c2, c3⟩, f0, f1, f2, f3⟩ := four_later hkA tb
        go_wp2_with (first | (go_at_call 90; (with_reducible refine (HI.out _).mono ?_); rintro e w1 ⟨rfl, rfl⟩) | (go_at_call 90; (with_reducible refine (HI2.out _).mono ?_); rintro e w1 ⟨rfl, rfl⟩) | (go_at_call 91; ((with_reducible refine (HL.out _).mono ?_); rintro e w1 ⟨rfl, hb1⟩; have tb := tb.trans (hb1.mono tb.size); obtain ⟨⟨c0, c1, c2, c3⟩, f0, f1, f2, f3⟩ := four_later hkA tb)) | (go_at_call 89; (with_reducible refine (HP.out _).mono ?_); rintro e w1 ⟨rfl, rfl⟩) | (go_at_call 92; ((with_reducible refine (HM.out _).mono ?_); rintro e w1 ⟨rfl, hb1⟩; have tb := tb.trans (hb1.mono tb.size); obtain ⟨⟨c0, c1, c2, c3⟩, f0, f1, f2, f3⟩ := four_later hkA tb)) | (go_at_call 93; (with_reducible refine (HD.out _).mono ?_); rintro e w1 ⟨rfl, rfl⟩) | (go_at_call 94; (with_reducible refine (HNu.out _).mono ?_); rintro e w1 ⟨rfl, rfl⟩) | (go_at_call 95; ((with_reducible refine (HQ.out _).mono ?_); rintro e w1 ⟨rfl, hb1⟩; have tb := tb.trans (hb1.mono tb.size); obtain ⟨⟨c0, c1, c2, c3⟩, f0, f1, f2, f3⟩ := four_later hkA tb)))
        refine bodyPost_ret (v := TokA 1 T 0 a ((a : Int) + (n : Int))) (by simp [TokA, results, Tryz.results50, go_sem, *]) rfl ?_
        exact WordIs.some_ HX.out rfl rfl (by first | rfl | omega | (have := HN4.out; omega)) (by first | rfl | rw [HT.out] | exact HT.out.symm | exact HT.out) (set4X (hwA.trans (tb.mono hwA.size)) (Nat.le_refl _) _ _ _ _)
    · rw [if_neg (fun g => h4 g.1), if_pos hn0] at hX0
      have hTx : (T.toList == [116, 101, 120, 116]) = false := by
        rw [Lib.toList_data, hTd, beq_eq_false_iff_ne]
        intro g
        have g2 := congrArg List.length g
        unfold lowL at g2
        rw [List.length_map, List.length_take, tl_length] at g2
        simp at g2
        omega
      have HX := Lib.hid hX0
      clear hlow e2 hTe hTd hT2 h4 hX0
      go_enter Tryz.func50, Tryz.ntmps50
      go_wp2_with fail
      generalize hw0 : w.alloc (.cells #[.int .i64 0, .string ⟨#[]⟩, .int .i64 0, .int .i64 0] 41) = w0 at *
      replace hwA : Below w.heap.size w w0 := by rw [← hw0]; exact hwA
      replace hkA : w0.heap[w.heap.size]? = some (.cells #[.int .i64 0, .string ⟨#[]⟩, .int .i64 0, .int .i64 0] 41 (0, 0)) := by rw [← hw0]; exact hkA
      clear hw0
      have tb : Below w0.heap.size w0 w0 := Below.refl _ _
      obtain ⟨⟨c0, c1, c2, c3⟩, f0, f1, f2, f3⟩ := four_later hkA tb
      go_wp2_with (first | (go_at_call 90; (with_reducible refine (HI.out _).mono ?_); rintro e w1 ⟨rfl, rfl⟩) | (go_at_call 90; (with_reducible refine (HI2.out _).mono ?_); rintro e w1 ⟨rfl, rfl⟩) | (go_at_call 91; ((with_reducible refine (HL.out _).mono ?_); rintro e w1 ⟨rfl, hb1⟩; have tb := tb.trans (hb1.mono tb.size); obtain ⟨⟨c0, c1, c2, c3⟩, f0, f1, f2, f3⟩ := four_later hkA tb)) | (go_at_call 89; (with_reducible refine (HP.out _).mono ?_); rintro e w1 ⟨rfl, rfl⟩) | (go_at_call 92; ((with_reducible refine (HM.out _).mono ?_); rintro e w1 ⟨rfl, hb1⟩; have tb := tb.trans (hb1.mono tb.size); obtain ⟨⟨c0, c1, c2, c3⟩, f0, f1, f2, f3⟩ := four_later hkA tb)) | (go_at_call 93; (with_reducible refine (HD.out _).mono ?_); rintro e w1 ⟨rfl, rfl⟩) | (go_at_call 94; (with_reducible refine (HNu.out _).mono ?_); rintro e w1 ⟨rfl, rfl⟩) | (go_at_call 95; ((with_reducible refine (HQ.out _).mono ?_); rintro e w1 ⟨rfl, hb1⟩; have tb := tb.trans (hb1.mono tb.size); obtain ⟨⟨c0, c1, c2, c3⟩, f0, f1, f2, f3⟩ := four_later hkA tb)))
      refine bodyPost_ret (v := TokA 1 T 0 a ((a : Int) + (n : Int))) (by simp [TokA, results, Tryz.results50, go_sem, *]) rfl ?_
      exact WordIs.some_ HX.out rfl rfl (by first | rfl | omega | (have := HN4.out; omega)) (by first | rfl | rw [HT.out] | exact HT.out.symm | exact HT.out) (set4X (hwA.trans (tb.mono hwA.size)) (Nat.le_refl _) _ _ _ _)
  · rw [if_neg (by omega), if_neg hn0] at hX0
    obtain rfl : n = 0 := by omega
    have HI := Lib.hid (show ∀ w, Calls Tryz.prog 90 #[.string s, .int .i64 a] w fun e w' => e = .returned (.int .i64 (a : Int)) ∧ w = w' from fun w => by have := HI.out w; rwa [show ((a : Int) + ((0 : Nat) : Int)) = (a : Int) by omega] at this)
    by_cases h58 : s[a] = 58
    · have hi2 : ∀ w, Calls Tryz.prog 90 #[.string s, .int .i64 ((a : Int) + 1)] w fun e w' => e = .returned (.int .i64 ((a : Int) + 1 + (identL (tl s (a + 1)) : Int))) ∧ w = w' := fun w => nameQ_any s (a + 1) w (by omega) (by omega)
      have q : ((s[a].toNat : Int) == 58) = true := (u8k 58 (by decide)).trans (decide_eq_true h58)
      by_cases hj0 : 0 < identL (tl s (a + 1))
      · rw [if_pos ⟨h58, hj0⟩] at hX0
        have HX := Lib.hid hX0
        have hjl := identL_le (tl s (a + 1))
        rw [tl_length] at hjl
        have hlow := fun w => lowerQ_any (s.extract (a + 1) (a + 1 + identL (tl s (a + 1)))) w (by rw [ext_size]; omega)
        have e2 := tl_take s (a + 1) (identL (tl s (a + 1))) (by omega)
        rw [e2] at hlow
        obtain ⟨T, hTe, hTd, -⟩ := arrE (lowL ((tl s (a + 1)).take (identL (tl s (a + 1)))))
        have hT2 : toB (lowL ((tl s (a + 1)).take (identL (tl s (a + 1))))) = T := hTe.symm
        rw [hT2] at hlow
        have HT := Lib.hid hT2
        generalize identL (tl s (a + 1)) = j at *
        have HI2 := Lib.hid hi2
        have HL := Lib.hid hlow
        clear hX0 hi2 h58 e2 hlow hTe hTd hT2 hile hn0
        go_enter Tryz.func50, Tryz.ntmps50
        go_wp2_with fail
        generalize hw0 : w.alloc (.cells #[.int .i64 0, .string ⟨#[]⟩, .int .i64 0, .int .i64 0] 41) = w0 at *
        replace hwA : Below w.heap.size w w0 := by rw [← hw0]; exact hwA
        replace hkA : w0.heap[w.heap.size]? = some (.cells #[.int .i64 0, .string ⟨#[]⟩, .int .i64 0, .int .i64 0] 41 (0, 0)) := by rw [← hw0]; exact hkA
        clear hw0
        have tb : Below w0.heap.size w0 w0 := Below.refl _ _
        obtain ⟨⟨c0, c1, c2, c3⟩, f0, f1, f2, f3⟩ := four_later hkA tb
        go_wp2_with (first | (go_at_call 90; (with_reducible refine (HI.out _).mono ?_); rintro e w1 ⟨rfl, rfl⟩) | (go_at_call 90; (with_reducible refine (HI2.out _).mono ?_); rintro e w1 ⟨rfl, rfl⟩) | (go_at_call 91; ((with_reducible refine (HL.out _).mono ?_); rintro e w1 ⟨rfl, hb1⟩; have tb := tb.trans (hb1.mono tb.size); obtain ⟨⟨c0, c1, c2, c3⟩, f0, f1, f2, f3⟩ := four_later hkA tb)) | (go_at_call 89; (with_reducible refine (HP.out _).mono ?_); rintro e w1 ⟨rfl, rfl⟩) | (go_at_call 92; ((with_reducible refine (HM.out _).mono ?_); rintro e w1 ⟨rfl, hb1⟩; have tb := tb.trans (hb1.mono tb.size); obtain ⟨⟨c0, c1, c2, c3⟩, f0, f1, f2, f3⟩ := four_later hkA tb)) | (go_at_call 93; (with_reducible refine (HD.out _).mono ?_); rintro e w1 ⟨rfl, rfl⟩) | (go_at_call 94; (with_reducible refine (HNu.out _).mono ?_); rintro e w1 ⟨rfl, rfl⟩) | (go_at_call 95; ((with_reducible refine (HQ.out _).mono ?_); rintro e w1 ⟨rfl, hb1⟩; have tb := tb.trans (hb1.mono tb.size); obtain ⟨⟨c0, c1, c2, c3⟩, f0, f1, f2, f3⟩ := four_later hkA tb)))
        refine bodyPost_ret (v := TokA 2 T 0 a ((a : Int) + 1 + (j : Int))) (by simp [TokA, results, Tryz.results50, go_sem, *]) rfl ?_
        exact WordIs.some_ HX.out rfl rfl (by first | rfl | omega | (have := HN4.out; omega)) (by first | rfl | rw [HT.out] | exact HT.out.symm | exact HT.out) (set4X (hwA.trans (tb.mono hwA.size)) (Nat.le_refl _) _ _ _ _)
      · rw [if_neg (fun g => hj0 g.2), h58, if_neg (by decide), if_neg (by decide), if_neg (by decide)] at hX0
        have HX := Lib.hid hX0
        have hj : identL (tl s (a + 1)) = 0 := by omega
        rw [hj] at hi2
        have HI2 := Lib.hid (show ∀ w, Calls Tryz.prog 90 #[.string s, .int .i64 ((a : Int) + 1)] w fun e w' => e = .returned (.int .i64 ((a : Int) + 1)) ∧ w = w' from fun w => by have := hi2 w; rwa [show ((a : Int) + 1 + ((0 : Nat) : Int)) = (a : Int) + 1 by omega] at this)
        have hD := digitQ_any s[a]
        have hdg : isDig s[a] = false := by rw [h58]; decide
        rw [hdg] at hD
        have HD := Lib.hid hD
        have q2 : ((s[a].toNat : Int) == 34) = false := (u8k 34 (by decide)).trans (decide_eq_false (by rw [h58]; decide))
        have m91 : ((s[a].toNat : Int) == 91) = false := (u8k 91 (by decide)).trans (decide_eq_false (by rw [h58]; decide))
        have m93 : ((s[a].toNat : Int) == 93) = false := (u8k 93 (by decide)).trans (decide_eq_false (by rw [h58]; decide))
        have m40 : ((s[a].toNat : Int) == 40) = false := (u8k 40 (by decide)).trans (decide_eq_false (by rw [h58]; decide))
        have m41 : ((s[a].toNat : Int) == 41) = false := (u8k 41 (by decide)).trans (decide_eq_false (by rw [h58]; decide))
        have m123 : ((s[a].toNat : Int) == 123) = false := (u8k 123 (by decide)).trans (decide_eq_false (by rw [h58]; decide))
        have m125 : ((s[a].toNat : Int) == 125) = false := (u8k 125 (by decide)).trans (decide_eq_false (by rw [h58]; decide))
        have m44 : ((s[a].toNat : Int) == 44) = false := (u8k 44 (by decide)).trans (decide_eq_false (by rw [h58]; decide))
        have m59 : ((s[a].toNat : Int) == 59) = false := (u8k 59 (by decide)).trans (decide_eq_false (by rw [h58]; decide))
        clear hX0 hi2 h58 hD hdg hile hn0 hj0 hj
        go_enter Tryz.func50, Tryz.ntmps50
        go_wp2_with fail
        generalize hw0 : w.alloc (.cells #[.int .i64 0, .string ⟨#[]⟩, .int .i64 0, .int .i64 0] 41) = w0 at *
        replace hwA : Below w.heap.size w w0 := by rw [← hw0]; exact hwA
        replace hkA : w0.heap[w.heap.size]? = some (.cells #[.int .i64 0, .string ⟨#[]⟩, .int .i64 0, .int .i64 0] 41 (0, 0)) := by rw [← hw0]; exact hkA
        clear hw0
        have tb : Below w0.heap.size w0 w0 := Below.refl _ _
        obtain ⟨⟨c0, c1, c2, c3⟩, f0, f1, f2, f3⟩ := four_later hkA tb
        go_wp2_with (first | (go_at_call 90; (with_reducible refine (HI.out _).mono ?_); rintro e w1 ⟨rfl, rfl⟩) | (go_at_call 90; (with_reducible refine (HI2.out _).mono ?_); rintro e w1 ⟨rfl, rfl⟩) | (go_at_call 91; ((with_reducible refine (HL.out _).mono ?_); rintro e w1 ⟨rfl, hb1⟩; have tb := tb.trans (hb1.mono tb.size); obtain ⟨⟨c0, c1, c2, c3⟩, f0, f1, f2, f3⟩ := four_later hkA tb)) | (go_at_call 89; (with_reducible refine (HP.out _).mono ?_); rintro e w1 ⟨rfl, rfl⟩) | (go_at_call 92; ((with_reducible refine (HM.out _).mono ?_); rintro e w1 ⟨rfl, hb1⟩; have tb := tb.trans (hb1.mono tb.size); obtain ⟨⟨c0, c1, c2, c3⟩, f0, f1, f2, f3⟩ := four_later hkA tb)) | (go_at_call 93; (with_reducible refine (HD.out _).mono ?_); rintro e w1 ⟨rfl, rfl⟩) | (go_at_call 94; (with_reducible refine (HNu.out _).mono ?_); rintro e w1 ⟨rfl, rfl⟩) | (go_at_call 95; ((with_reducible refine (HQ.out _).mono ?_); rintro e w1 ⟨rfl, hb1⟩; have tb := tb.trans (hb1.mono tb.size); obtain ⟨⟨c0, c1, c2, c3⟩, f0, f1, f2, f3⟩ := four_later hkA tb)))
        refine bodyPost_ret (v := TokA 0 ⟨#[]⟩ 0 (0) (-1)) (by simp [TokA, results, Tryz.results50, go_sem, *]) rfl ?_
        exact WordIs.none_ HX.out (set4X (hwA.trans (tb.mono hwA.size)) (Nat.le_refl _) _ _ _ _)
    · rw [if_neg (fun g => h58 g.1)] at hX0
      have q : ((s[a].toNat : Int) == 58) = false := (u8k 58 (by decide)).trans (decide_eq_false h58)
      have hD := digitQ_any s[a]
      clear h58
      by_cases hdg : isDig s[a] = true
      · rw [if_pos hdg] at hX0
        have hNu := fun w1 => numberQ_any s a w1 (by omega) (by omega)
        unfold NumA at hNu
        rw [hdg] at hD
        have HD := Lib.hid hD
        clear hD hdg hile hn0
        cases hml : numL (tl s a) with
        | none =>
          rw [hml] at hNu hX0
          have HX := Lib.hid (show X = none from hX0)
          have HNu := Lib.hid (show ∀ w1, Calls Tryz.prog 94 #[.string s, .int .i64 a] w1 fun e w' => e = .returned (.tuple #[.int .i64 0, .int .i64 (-1)]) ∧ w1 = w' from hNu)
          clear hNu hX0 hml
          go_enter Tryz.func50, Tryz.ntmps50
          go_wp2_with fail
          generalize hw0 : w.alloc (.cells #[.int .i64 0, .string ⟨#[]⟩, .int .i64 0, .int .i64 0] 41) = w0 at *
          replace hwA : Below w.heap.size w w0 := by rw [← hw0]; exact hwA
          replace hkA : w0.heap[w.heap.size]? = some (.cells #[.int .i64 0, .string ⟨#[]⟩, .int .i64 0, .int .i64 0] 41 (0, 0)) := by rw [← hw0]; exact hkA
          clear hw0
          have tb : Below w0.heap.size w0 w0 := Below.refl _ _
          obtain ⟨⟨c0, c1, c2, c3⟩, f0, f1, f2, f3⟩ := four_later hkA tb
          go_wp2_with (first | (go_at_call 90; (with_reducible refine (HI.out _).mono ?_); rintro e w1 ⟨rfl, rfl⟩) | (go_at_call 90; (with_reducible refine (HI2.out _).mono ?_); rintro e w1 ⟨rfl, rfl⟩) | (go_at_call 91; ((with_reducible refine (HL.out _).mono ?_); rintro e w1 ⟨rfl, hb1⟩; have tb := tb.trans (hb1.mono tb.size); obtain ⟨⟨c0, c1, c2, c3⟩, f0, f1, f2, f3⟩ := four_later hkA tb)) | (go_at_call 89; (with_reducible refine (HP.out _).mono ?_); rintro e w1 ⟨rfl, rfl⟩) | (go_at_call 92; ((with_reducible refine (HM.out _).mono ?_); rintro e w1 ⟨rfl, hb1⟩; have tb := tb.trans (hb1.mono tb.size); obtain ⟨⟨c0, c1, c2, c3⟩, f0, f1, f2, f3⟩ := four_later hkA tb)) | (go_at_call 93; (with_reducible refine (HD.out _).mono ?_); rintro e w1 ⟨rfl, rfl⟩) | (go_at_call 94; (with_reducible refine (HNu.out _).mono ?_); rintro e w1 ⟨rfl, rfl⟩) | (go_at_call 95; ((with_reducible refine (HQ.out _).mono ?_); rintro e w1 ⟨rfl, hb1⟩; have tb := tb.trans (hb1.mono tb.size); obtain ⟨⟨c0, c1, c2, c3⟩, f0, f1, f2, f3⟩ := four_later hkA tb)))
          refine bodyPost_ret (v := TokA 3 ⟨#[]⟩ 0 (a) (-1)) (by simp [TokA, results, Tryz.results50, go_sem, *]) rfl ?_
          exact WordIs.none_ HX.out (set4X (hwA.trans (tb.mono hwA.size)) (Nat.le_refl _) _ _ _ _)
        | some p =>
          rw [hml] at hNu hX0
          obtain ⟨pv, pn⟩ := p
          have HX := Lib.hid (show X = some (⟨3, [], pv⟩, pn) from hX0)
          have HNu := Lib.hid (show ∀ w1, Calls Tryz.prog 94 #[.string s, .int .i64 a] w1 fun e w' => e = .returned (.tuple #[.int .i64 (pv : Int), .int .i64 ((a : Int) + (pn : Int))]) ∧ w1 = w' from hNu)
          clear hNu hX0 hml
          go_enter Tryz.func50, Tryz.ntmps50
          go_wp2_with fail
          generalize hw0 : w.alloc (.cells #[.int .i64 0, .string ⟨#[]⟩, .int .i64 0, .int .i64 0] 41) = w0 at *
          replace hwA : Below w.heap.size w w0 := by rw [← hw0]; exact hwA
          replace hkA : w0.heap[w.heap.size]? = some (.cells #[.int .i64 0, .string ⟨#[]⟩, .int .i64 0, .int .i64 0] 41 (0, 0)) := by rw [← hw0]; exact hkA
          clear hw0
          have tb : Below w0.heap.size w0 w0 := Below.refl _ _
          obtain ⟨⟨c0, c1, c2, c3⟩, f0, f1, f2, f3⟩ := four_later hkA tb
          go_wp2_with (first | (go_at_call 90; (with_reducible refine (HI.out _).mono ?_); rintro e w1 ⟨rfl, rfl⟩) | (go_at_call 90; (with_reducible refine (HI2.out _).mono ?_); rintro e w1 ⟨rfl, rfl⟩) | (go_at_call 91; ((with_reducible refine (HL.out _).mono ?_); rintro e w1 ⟨rfl, hb1⟩; have tb := tb.trans (hb1.mono tb.size); obtain ⟨⟨c0, c1, c2, c3⟩, f0, f1, f2, f3⟩ := four_later hkA tb)) | (go_at_call 89; (with_reducible refine (HP.out _).mono ?_); rintro e w1 ⟨rfl, rfl⟩) | (go_at_call 92; ((with_reducible refine (HM.out _).mono ?_); rintro e w1 ⟨rfl, hb1⟩; have tb := tb.trans (hb1.mono tb.size); obtain ⟨⟨c0, c1, c2, c3⟩, f0, f1, f2, f3⟩ := four_later hkA tb)) | (go_at_call 93; (with_reducible refine (HD.out _).mono ?_); rintro e w1 ⟨rfl, rfl⟩) | (go_at_call 94; (with_reducible refine (HNu.out _).mono ?_); rintro e w1 ⟨rfl, rfl⟩) | (go_at_call 95; ((with_reducible refine (HQ.out _).mono ?_); rintro e w1 ⟨rfl, hb1⟩; have tb := tb.trans (hb1.mono tb.size); obtain ⟨⟨c0, c1, c2, c3⟩, f0, f1, f2, f3⟩ := four_later hkA tb)))
          refine bodyPost_ret (v := TokA 3 ⟨#[]⟩ (pv : Int) a ((a : Int) + (pn : Int))) (by simp [TokA, results, Tryz.results50, go_sem, *]) rfl ?_
          exact WordIs.some_ HX.out rfl rfl (by first | rfl | omega | (have := HN4.out; omega)) (by first | rfl | rw [HT.out] | exact HT.out.symm | exact HT.out) (set4X (hwA.trans (tb.mono hwA.size)) (Nat.le_refl _) _ _ _ _)
      · rw [if_neg hdg] at hX0
        have hdg : isDig s[a] = false := by simpa using hdg
        rw [hdg] at hD
        have HD := Lib.hid hD
        clear hD hdg
        by_cases h34 : s[a] = 34
        · rw [if_pos h34] at hX0
          have q2 : ((s[a].toNat : Int) == 34) = true := (u8k 34 (by decide)).trans (decide_eq_true h34)
          have hQ := fun w1 => quotedQ_any s a w1 (by omega) h
          unfold PairIs at hQ
          clear h34 hile hn0
          cases hml : quoL (tl s (a + 1)) with
          | none =>
            rw [hml] at hQ hX0
            have HX := Lib.hid (show X = none from hX0)
            have HQ := Lib.hid (show ∀ w1, Calls Tryz.prog 95 #[.string s, .int .i64 a] w1 fun e w' => e = .returned (.tuple #[.string ⟨#[]⟩, .int .i64 (-1)]) ∧ Below w1.heap.size w1 w' from hQ)
            clear hQ hX0 hml
            go_enter Tryz.func50, Tryz.ntmps50
            go_wp2_with fail
            generalize hw0 : w.alloc (.cells #[.int .i64 0, .string ⟨#[]⟩, .int .i64 0, .int .i64 0] 41) = w0 at *
            replace hwA : Below w.heap.size w w0 := by rw [← hw0]; exact hwA
            replace hkA : w0.heap[w.heap.size]? = some (.cells #[.int .i64 0, .string ⟨#[]⟩, .int .i64 0, .int .i64 0] 41 (0, 0)) := by rw [← hw0]; exact hkA
            clear hw0
            have tb : Below w0.heap.size w0 w0 := Below.refl _ _
            obtain ⟨⟨c0, c1, c2, c3⟩, f0, f1, f2, f3⟩ := four_later hkA tb
            go_wp2_with (first | (go_at_call 90; (with_reducible refine (HI.out _).mono ?_); rintro e w1 ⟨rfl, rfl⟩) | (go_at_call 90; (with_reducible refine (HI2.out _).mono ?_); rintro e w1 ⟨rfl, rfl⟩) | (go_at_call 91; ((with_reducible refine (HL.out _).mono ?_); rintro e w1 ⟨rfl, hb1⟩; have tb := tb.trans (hb1.mono tb.size); obtain ⟨⟨c0, c1, c2, c3⟩, f0, f1, f2, f3⟩ := four_later hkA tb)) | (go_at_call 89; (with_reducible refine (HP.out _).mono ?_); rintro e w1 ⟨rfl, rfl⟩) | (go_at_call 92; ((with_reducible refine (HM.out _).mono ?_); rintro e w1 ⟨rfl, hb1⟩; have tb := tb.trans (hb1.mono tb.size); obtain ⟨⟨c0, c1, c2, c3⟩, f0, f1, f2, f3⟩ := four_later hkA tb)) | (go_at_call 93; (with_reducible refine (HD.out _).mono ?_); rintro e w1 ⟨rfl, rfl⟩) | (go_at_call 94; (with_reducible refine (HNu.out _).mono ?_); rintro e w1 ⟨rfl, rfl⟩) | (go_at_call 95; ((with_reducible refine (HQ.out _).mono ?_); rintro e w1 ⟨rfl, hb1⟩; have tb := tb.trans (hb1.mono tb.size); obtain ⟨⟨c0, c1, c2, c3⟩, f0, f1, f2, f3⟩ := four_later hkA tb)))
            refine bodyPost_ret (v := TokA 4 ⟨#[]⟩ 0 (a) (-1)) (by simp [TokA, results, Tryz.results50, go_sem, *]) rfl ?_
            exact WordIs.none_ HX.out (set4X (hwA.trans (tb.mono hwA.size)) (Nat.le_refl _) _ _ _ _)
          | some p =>
            rw [hml] at hQ hX0
            obtain ⟨pv, pn⟩ := p
            have HX := Lib.hid (show X = some (⟨4, pv, 0⟩, 1 + pn) from hX0)
            obtain ⟨V, hVe, -, -⟩ := arrE pv
            have hV2 : toB pv = V := hVe.symm
            have hQ : ∀ w1, Calls Tryz.prog 95 #[.string s, .int .i64 a] w1 fun e w' => e = .returned (.tuple #[.string (toB pv), .int .i64 ((a + 1 + pn : Nat) : Int)]) ∧ Below w1.heap.size w1 w' := hQ
            rw [hV2] at hQ
            obtain ⟨qn, hqn⟩ : ∃ qn, qn = a + 1 + pn := ⟨_, rfl⟩
            rw [← hqn] at hQ
            have HQ := Lib.hid hQ
            have HT := Lib.hid hV2
            have HN4 := Lib.hid (show qn = a + (1 + pn) by omega)
            clear hQ hX0 hml hVe hV2 hqn
            go_enter Tryz.func50, Tryz.ntmps50
            go_wp2_with fail
            generalize hw0 : w.alloc (.cells #[.int .i64 0, .string ⟨#[]⟩, .int .i64 0, .int .i64 0] 41) = w0 at *
            replace hwA : Below w.heap.size w w0 := by rw [← hw0]; exact hwA
            replace hkA : w0.heap[w.heap.size]? = some (.cells #[.int .i64 0, .string ⟨#[]⟩, .int .i64 0, .int .i64 0] 41 (0, 0)) := by rw [← hw0]; exact hkA
            clear hw0
            have tb : Below w0.heap.size w0 w0 := Below.refl _ _
            obtain ⟨⟨c0, c1, c2, c3⟩, f0, f1, f2, f3⟩ := four_later hkA tb
            go_wp2_with (first | (go_at_call 90; (with_reducible refine (HI.out _).mono ?_); rintro e w1 ⟨rfl, rfl⟩) | (go_at_call 90; (with_reducible refine (HI2.out _).mono ?_); rintro e w1 ⟨rfl, rfl⟩) | (go_at_call 91; ((with_reducible refine (HL.out _).mono ?_); rintro e w1 ⟨rfl, hb1⟩; have tb := tb.trans (hb1.mono tb.size); obtain ⟨⟨c0, c1, c2, c3⟩, f0, f1, f2, f3⟩ := four_later hkA tb)) | (go_at_call 89; (with_reducible refine (HP.out _).mono ?_); rintro e w1 ⟨rfl, rfl⟩) | (go_at_call 92; ((with_reducible refine (HM.out _).mono ?_); rintro e w1 ⟨rfl, hb1⟩; have tb := tb.trans (hb1.mono tb.size); obtain ⟨⟨c0, c1, c2, c3⟩, f0, f1, f2, f3⟩ := four_later hkA tb)) | (go_at_call 93; (with_reducible refine (HD.out _).mono ?_); rintro e w1 ⟨rfl, rfl⟩) | (go_at_call 94; (with_reducible refine (HNu.out _).mono ?_); rintro e w1 ⟨rfl, rfl⟩) | (go_at_call 95; ((with_reducible refine (HQ.out _).mono ?_); rintro e w1 ⟨rfl, hb1⟩; have tb := tb.trans (hb1.mono tb.size); obtain ⟨⟨c0, c1, c2, c3⟩, f0, f1, f2, f3⟩ := four_later hkA tb)))
            refine bodyPost_ret (v := TokA 4 V 0 a ((qn : Int))) (by simp [TokA, results, Tryz.results50, go_sem, *]) rfl ?_
            exact WordIs.some_ HX.out rfl rfl (by first | rfl | omega | (have := HN4.out; omega)) (by first | rfl | rw [HT.out] | exact HT.out.symm | exact HT.out) (set4X (hwA.trans (tb.mono hwA.size)) (Nat.le_refl _) _ _ _ _)
        · rw [if_neg h34] at hX0
          have q2 : ((s[a].toNat : Int) == 34) = false := (u8k 34 (by decide)).trans (decide_eq_false h34)
          clear h34 hile hn0
          by_cases hm : isMk s[a] = true
          · rw [if_pos hm] at hX0
            have HX := Lib.hid hX0
            have HT := Lib.hid (show s.extract a (a + 1) = toB [s[a]] by rw [← ext_take s a 1 (by omega), tl_cons s a h]; rfl)
            have hmc := of_decide_eq_true (show decide (s[a] = 91 ∨ s[a] = 93 ∨ s[a] = 40 ∨ s[a] = 41 ∨ s[a] = 123 ∨ s[a] = 125 ∨ s[a] = 44 ∨ s[a] = 59) = true from hm)
            clear hX0 hm
            rcases hmc with hc | hc | hc | hc | hc | hc | hc | hc
            ·
              have m91 : ((s[a].toNat : Int) == 91) = true := (u8k 91 (by decide)).trans (decide_eq_true hc)
              have m93 : ((s[a].toNat : Int) == 93) = false := (u8k 93 (by decide)).trans (decide_eq_false (by rw [hc]; decide))
              have m40 : ((s[a].toNat : Int) == 40) = false := (u8k 40 (by decide)).trans (decide_eq_false (by rw [hc]; decide))
              have m41 : ((s[a].toNat : Int) == 41) = false := (u8k 41 (by decide)).trans (decide_eq_false (by rw [hc]; decide))
              have m123 : ((s[a].toNat : Int) == 123) = false := (u8k 123 (by decide)).trans (decide_eq_false (by rw [hc]; decide))
              have m125 : ((s[a].toNat : Int) == 125) = false := (u8k 125 (by decide)).trans (decide_eq_false (by rw [hc]; decide))
              have m44 : ((s[a].toNat : Int) == 44) = false := (u8k 44 (by decide)).trans (decide_eq_false (by rw [hc]; decide))
              have m59 : ((s[a].toNat : Int) == 59) = false := (u8k 59 (by decide)).trans (decide_eq_false (by rw [hc]; decide))
              clear hc
              go_enter Tryz.func50, Tryz.ntmps50
              go_wp2_with fail
              generalize hw0 : w.alloc (.cells #[.int .i64 0, .string ⟨#[]⟩, .int .i64 0, .int .i64 0] 41) = w0 at *
              replace hwA : Below w.heap.size w w0 := by rw [← hw0]; exact hwA
              replace hkA : w0.heap[w.heap.size]? = some (.cells #[.int .i64 0, .string ⟨#[]⟩, .int .i64 0, .int .i64 0] 41 (0, 0)) := by rw [← hw0]; exact hkA
              clear hw0
              have tb : Below w0.heap.size w0 w0 := Below.refl _ _
              obtain ⟨⟨c0, c1, c2, c3⟩, f0, f1, f2, f3⟩ := four_later hkA tb
              go_wp2_with (first | (go_at_call 90; (with_reducible refine (HI.out _).mono ?_); rintro e w1 ⟨rfl, rfl⟩) | (go_at_call 90; (with_reducible refine (HI2.out _).mono ?_); rintro e w1 ⟨rfl, rfl⟩) | (go_at_call 91; ((with_reducible refine (HL.out _).mono ?_); rintro e w1 ⟨rfl, hb1⟩; have tb := tb.trans (hb1.mono tb.size); obtain ⟨⟨c0, c1, c2, c3⟩, f0, f1, f2, f3⟩ := four_later hkA tb)) | (go_at_call 89; (with_reducible refine (HP.out _).mono ?_); rintro e w1 ⟨rfl, rfl⟩) | (go_at_call 92; ((with_reducible refine (HM.out _).mono ?_); rintro e w1 ⟨rfl, hb1⟩; have tb := tb.trans (hb1.mono tb.size); obtain ⟨⟨c0, c1, c2, c3⟩, f0, f1, f2, f3⟩ := four_later hkA tb)) | (go_at_call 93; (with_reducible refine (HD.out _).mono ?_); rintro e w1 ⟨rfl, rfl⟩) | (go_at_call 94; (with_reducible refine (HNu.out _).mono ?_); rintro e w1 ⟨rfl, rfl⟩) | (go_at_call 95; ((with_reducible refine (HQ.out _).mono ?_); rintro e w1 ⟨rfl, hb1⟩; have tb := tb.trans (hb1.mono tb.size); obtain ⟨⟨c0, c1, c2, c3⟩, f0, f1, f2, f3⟩ := four_later hkA tb)))
              refine bodyPost_ret (v := TokA 5 (s.extract a (a + 1)) 0 a ((a : Int) + 1)) (by simp [TokA, results, Tryz.results50, go_sem, *]) rfl ?_
              exact WordIs.some_ HX.out rfl rfl (by first | rfl | omega | (have := HN4.out; omega)) (by first | rfl | rw [HT.out] | exact HT.out.symm | exact HT.out) (set4X (hwA.trans (tb.mono hwA.size)) (Nat.le_refl _) _ _ _ _)
            ·
              have m91 : ((s[a].toNat : Int) == 91) = false := (u8k 91 (by decide)).trans (decide_eq_false (by rw [hc]; decide))
              have m93 : ((s[a].toNat : Int) == 93) = true := (u8k 93 (by decide)).trans (decide_eq_true hc)
              have m40 : ((s[a].toNat : Int) == 40) = false := (u8k 40 (by decide)).trans (decide_eq_false (by rw [hc]; decide))
              have m41 : ((s[a].toNat : Int) == 41) = false := (u8k 41 (by decide)).trans (decide_eq_false (by rw [hc]; decide))
              have m123 : ((s[a].toNat : Int) == 123) = false := (u8k 123 (by decide)).trans (decide_eq_false (by rw [hc]; decide))
              have m125 : ((s[a].toNat : Int) == 125) = false := (u8k 125 (by decide)).trans (decide_eq_false (by rw [hc]; decide))
              have m44 : ((s[a].toNat : Int) == 44) = false := (u8k 44 (by decide)).trans (decide_eq_false (by rw [hc]; decide))
              have m59 : ((s[a].toNat : Int) == 59) = false := (u8k 59 (by decide)).trans (decide_eq_false (by rw [hc]; decide))
              clear hc
              go_enter Tryz.func50, Tryz.ntmps50
              go_wp2_with fail
              generalize hw0 : w.alloc (.cells #[.int .i64 0, .string ⟨#[]⟩, .int .i64 0, .int .i64 0] 41) = w0 at *
              replace hwA : Below w.heap.size w w0 := by rw [← hw0]; exact hwA
              replace hkA : w0.heap[w.heap.size]? = some (.cells #[.int .i64 0, .string ⟨#[]⟩, .int .i64 0, .int .i64 0] 41 (0, 0)) := by rw [← hw0]; exact hkA
              clear hw0
              have tb : Below w0.heap.size w0 w0 := Below.refl _ _
              obtain ⟨⟨c0, c1, c2, c3⟩, f0, f1, f2, f3⟩ := four_later hkA tb
              go_wp2_with (first | (go_at_call 90; (with_reducible refine (HI.out _).mono ?_); rintro e w1 ⟨rfl, rfl⟩) | (go_at_call 90; (with_reducible refine (HI2.out _).mono ?_); rintro e w1 ⟨rfl, rfl⟩) | (go_at_call 91; ((with_reducible refine (HL.out _).mono ?_); rintro e w1 ⟨rfl, hb1⟩; have tb := tb.trans (hb1.mono tb.size); obtain ⟨⟨c0, c1, c2, c3⟩, f0, f1, f2, f3⟩ := four_later hkA tb)) | (go_at_call 89; (with_reducible refine (HP.out _).mono ?_); rintro e w1 ⟨rfl, rfl⟩) | (go_at_call 92; ((with_reducible refine (HM.out _).mono ?_); rintro e w1 ⟨rfl, hb1⟩; have tb := tb.trans (hb1.mono tb.size); obtain ⟨⟨c0, c1, c2, c3⟩, f0, f1, f2, f3⟩ := four_later hkA tb)) | (go_at_call 93; (with_reducible refine (HD.out _).mono ?_); rintro e w1 ⟨rfl, rfl⟩) | (go_at_call 94; (with_reducible refine (HNu.out _).mono ?_); rintro e w1 ⟨rfl, rfl⟩) | (go_at_call 95; ((with_reducible refine (HQ.out _).mono ?_); rintro e w1 ⟨rfl, hb1⟩; have tb := tb.trans (hb1.mono tb.size); obtain ⟨⟨c0, c1, c2, c3⟩, f0, f1, f2, f3⟩ := four_later hkA tb)))
              refine bodyPost_ret (v := TokA 5 (s.extract a (a + 1)) 0 a ((a : Int) + 1)) (by simp [TokA, results, Tryz.results50, go_sem, *]) rfl ?_
              exact WordIs.some_ HX.out rfl rfl (by first | rfl | omega | (have := HN4.out; omega)) (by first | rfl | rw [HT.out] | exact HT.out.symm | exact HT.out) (set4X (hwA.trans (tb.mono hwA.size)) (Nat.le_refl _) _ _ _ _)
            ·
              have m91 : ((s[a].toNat : Int) == 91) = false := (u8k 91 (by decide)).trans (decide_eq_false (by rw [hc]; decide))
              have m93 : ((s[a].toNat : Int) == 93) = false := (u8k 93 (by decide)).trans (decide_eq_false (by rw [hc]; decide))
              have m40 : ((s[a].toNat : Int) == 40) = true := (u8k 40 (by decide)).trans (decide_eq_true hc)
              have m41 : ((s[a].toNat : Int) == 41) = false := (u8k 41 (by decide)).trans (decide_eq_false (by rw [hc]; decide))
              have m123 : ((s[a].toNat : Int) == 123) = false := (u8k 123 (by decide)).trans (decide_eq_false (by rw [hc]; decide))
              have m125 : ((s[a].toNat : Int) == 125) = false := (u8k 125 (by decide)).trans (decide_eq_false (by rw [hc]; decide))
              have m44 : ((s[a].toNat : Int) == 44) = false := (u8k 44 (by decide)).trans (decide_eq_false (by rw [hc]; decide))
              have m59 : ((s[a].toNat : Int) == 59) = false := (u8k 59 (by decide)).trans (decide_eq_false (by rw [hc]; decide))
              clear hc
              go_enter Tryz.func50, Tryz.ntmps50
              go_wp2_with fail
              generalize hw0 : w.alloc (.cells #[.int .i64 0, .string ⟨#[]⟩, .int .i64 0, .int .i64 0] 41) = w0 at *
              replace hwA : Below w.heap.size w w0 := by rw [← hw0]; exact hwA
              replace hkA : w0.heap[w.heap.size]? = some (.cells #[.int .i64 0, .string ⟨#[]⟩, .int .i64 0, .int .i64 0] 41 (0, 0)) := by rw [← hw0]; exact hkA
              clear hw0
              have tb : Below w0.heap.size w0 w0 := Below.refl _ _
              obtain ⟨⟨c0, c1, c2, c3⟩, f0, f1, f2, f3⟩ := four_later hkA tb
              go_wp2_with (first | (go_at_call 90; (with_reducible refine (HI.out _).mono ?_); rintro e w1 ⟨rfl, rfl⟩) | (go_at_call 90; (with_reducible refine (HI2.out _).mono ?_); rintro e w1 ⟨rfl, rfl⟩) | (go_at_call 91; ((with_reducible refine (HL.out _).mono ?_); rintro e w1 ⟨rfl, hb1⟩; have tb := tb.trans (hb1.mono tb.size); obtain ⟨⟨c0, c1, c2, c3⟩, f0, f1, f2, f3⟩ := four_later hkA tb)) | (go_at_call 89; (with_reducible refine (HP.out _).mono ?_); rintro e w1 ⟨rfl, rfl⟩) | (go_at_call 92; ((with_reducible refine (HM.out _).mono ?_); rintro e w1 ⟨rfl, hb1⟩; have tb := tb.trans (hb1.mono tb.size); obtain ⟨⟨c0, c1, c2, c3⟩, f0, f1, f2, f3⟩ := four_later hkA tb)) | (go_at_call 93; (with_reducible refine (HD.out _).mono ?_); rintro e w1 ⟨rfl, rfl⟩) | (go_at_call 94; (with_reducible refine (HNu.out _).mono ?_); rintro e w1 ⟨rfl, rfl⟩) | (go_at_call 95; ((with_reducible refine (HQ.out _).mono ?_); rintro e w1 ⟨rfl, hb1⟩; have tb := tb.trans (hb1.mono tb.size); obtain ⟨⟨c0, c1, c2, c3⟩, f0, f1, f2, f3⟩ := four_later hkA tb)))
              refine bodyPost_ret (v := TokA 5 (s.extract a (a + 1)) 0 a ((a : Int) + 1)) (by simp [TokA, results, Tryz.results50, go_sem, *]) rfl ?_
              exact WordIs.some_ HX.out rfl rfl (by first | rfl | omega | (have := HN4.out; omega)) (by first | rfl | rw [HT.out] | exact HT.out.symm | exact HT.out) (set4X (hwA.trans (tb.mono hwA.size)) (Nat.le_refl _) _ _ _ _)
            ·
              have m91 : ((s[a].toNat : Int) == 91) = false := (u8k 91 (by decide)).trans (decide_eq_false (by rw [hc]; decide))
              have m93 : ((s[a].toNat : Int) == 93) = false := (u8k 93 (by decide)).trans (decide_eq_false (by rw [hc]; decide))
              have m40 : ((s[a].toNat : Int) == 40) = false := (u8k 40 (by decide)).trans (decide_eq_false (by rw [hc]; decide))
              have m41 : ((s[a].toNat : Int) == 41) = true := (u8k 41 (by decide)).trans (decide_eq_true hc)
              have m123 : ((s[a].toNat : Int) == 123) = false := (u8k 123 (by decide)).trans (decide_eq_false (by rw [hc]; decide))
              have m125 : ((s[a].toNat : Int) == 125) = false := (u8k 125 (by decide)).trans (decide_eq_false (by rw [hc]; decide))
              have m44 : ((s[a].toNat : Int) == 44) = false := (u8k 44 (by decide)).trans (decide_eq_false (by rw [hc]; decide))
              have m59 : ((s[a].toNat : Int) == 59) = false := (u8k 59 (by decide)).trans (decide_eq_false (by rw [hc]; decide))
              clear hc
              go_enter Tryz.func50, Tryz.ntmps50
              go_wp2_with fail
              generalize hw0 : w.alloc (.cells #[.int .i64 0, .string ⟨#[]⟩, .int .i64 0, .int .i64 0] 41) = w0 at *
              replace hwA : Below w.heap.size w w0 := by rw [← hw0]; exact hwA
              replace hkA : w0.heap[w.heap.size]? = some (.cells #[.int .i64 0, .string ⟨#[]⟩, .int .i64 0, .int .i64 0] 41 (0, 0)) := by rw [← hw0]; exact hkA
              clear hw0
              have tb : Below w0.heap.size w0 w0 := Below.refl _ _
              obtain ⟨⟨c0, c1, c2, c3⟩, f0, f1, f2, f3⟩ := four_later hkA tb
              go_wp2_with (first | (go_at_call 90; (with_reducible refine (HI.out _).mono ?_); rintro e w1 ⟨rfl, rfl⟩) | (go_at_call 90; (with_reducible refine (HI2.out _).mono ?_); rintro e w1 ⟨rfl, rfl⟩) | (go_at_call 91; ((with_reducible refine (HL.out _).mono ?_); rintro e w1 ⟨rfl, hb1⟩; have tb := tb.trans (hb1.mono tb.size); obtain ⟨⟨c0, c1, c2, c3⟩, f0, f1, f2, f3⟩ := four_later hkA tb)) | (go_at_call 89; (with_reducible refine (HP.out _).mono ?_); rintro e w1 ⟨rfl, rfl⟩) | (go_at_call 92; ((with_reducible refine (HM.out _).mono ?_); rintro e w1 ⟨rfl, hb1⟩; have tb := tb.trans (hb1.mono tb.size); obtain ⟨⟨c0, c1, c2, c3⟩, f0, f1, f2, f3⟩ := four_later hkA tb)) | (go_at_call 93; (with_reducible refine (HD.out _).mono ?_); rintro e w1 ⟨rfl, rfl⟩) | (go_at_call 94; (with_reducible refine (HNu.out _).mono ?_); rintro e w1 ⟨rfl, rfl⟩) | (go_at_call 95; ((with_reducible refine (HQ.out _).mono ?_); rintro e w1 ⟨rfl, hb1⟩; have tb := tb.trans (hb1.mono tb.size); obtain ⟨⟨c0, c1, c2, c3⟩, f0, f1, f2, f3⟩ := four_later hkA tb)))
              refine bodyPost_ret (v := TokA 5 (s.extract a (a + 1)) 0 a ((a : Int) + 1)) (by simp [TokA, results, Tryz.results50, go_sem, *]) rfl ?_
              exact WordIs.some_ HX.out rfl rfl (by first | rfl | omega | (have := HN4.out; omega)) (by first | rfl | rw [HT.out] | exact HT.out.symm | exact HT.out) (set4X (hwA.trans (tb.mono hwA.size)) (Nat.le_refl _) _ _ _ _)
            ·
              have m91 : ((s[a].toNat : Int) == 91) = false := (u8k 91 (by decide)).trans (decide_eq_false (by rw [hc]; decide))
              have m93 : ((s[a].toNat : Int) == 93) = false := (u8k 93 (by decide)).trans (decide_eq_false (by rw [hc]; decide))
              have m40 : ((s[a].toNat : Int) == 40) = false := (u8k 40 (by decide)).trans (decide_eq_false (by rw [hc]; decide))
              have m41 : ((s[a].toNat : Int) == 41) = false := (u8k 41 (by decide)).trans (decide_eq_false (by rw [hc]; decide))
              have m123 : ((s[a].toNat : Int) == 123) = true := (u8k 123 (by decide)).trans (decide_eq_true hc)
              have m125 : ((s[a].toNat : Int) == 125) = false := (u8k 125 (by decide)).trans (decide_eq_false (by rw [hc]; decide))
              have m44 : ((s[a].toNat : Int) == 44) = false := (u8k 44 (by decide)).trans (decide_eq_false (by rw [hc]; decide))
              have m59 : ((s[a].toNat : Int) == 59) = false := (u8k 59 (by decide)).trans (decide_eq_false (by rw [hc]; decide))
              clear hc
              go_enter Tryz.func50, Tryz.ntmps50
              go_wp2_with fail
              generalize hw0 : w.alloc (.cells #[.int .i64 0, .string ⟨#[]⟩, .int .i64 0, .int .i64 0] 41) = w0 at *
              replace hwA : Below w.heap.size w w0 := by rw [← hw0]; exact hwA
              replace hkA : w0.heap[w.heap.size]? = some (.cells #[.int .i64 0, .string ⟨#[]⟩, .int .i64 0, .int .i64 0] 41 (0, 0)) := by rw [← hw0]; exact hkA
              clear hw0
              have tb : Below w0.heap.size w0 w0 := Below.refl _ _
              obtain ⟨⟨c0, c1, c2, c3⟩, f0, f1, f2, f3⟩ := four_later hkA tb
              go_wp2_with (first | (go_at_call 90; (with_reducible refine (HI.out _).mono ?_); rintro e w1 ⟨rfl, rfl⟩) | (go_at_call 90; (with_reducible refine (HI2.out _).mono ?_); rintro e w1 ⟨rfl, rfl⟩) | (go_at_call 91; ((with_reducible refine (HL.out _).mono ?_); rintro e w1 ⟨rfl, hb1⟩; have tb := tb.trans (hb1.mono tb.size); obtain ⟨⟨c0, c1, c2, c3⟩, f0, f1, f2, f3⟩ := four_later hkA tb)) | (go_at_call 89; (with_reducible refine (HP.out _).mono ?_); rintro e w1 ⟨rfl, rfl⟩) | (go_at_call 92; ((with_reducible refine (HM.out _).mono ?_); rintro e w1 ⟨rfl, hb1⟩; have tb := tb.trans (hb1.mono tb.size); obtain ⟨⟨c0, c1, c2, c3⟩, f0, f1, f2, f3⟩ := four_later hkA tb)) | (go_at_call 93; (with_reducible refine (HD.out _).mono ?_); rintro e w1 ⟨rfl, rfl⟩) | (go_at_call 94; (with_reducible refine (HNu.out _).mono ?_); rintro e w1 ⟨rfl, rfl⟩) | (go_at_call 95; ((with_reducible refine (HQ.out _).mono ?_); rintro e w1 ⟨rfl, hb1⟩; have tb := tb.trans (hb1.mono tb.size); obtain ⟨⟨c0, c1, c2, c3⟩, f0, f1, f2, f3⟩ := four_later hkA tb)))
              refine bodyPost_ret (v := TokA 5 (s.extract a (a + 1)) 0 a ((a : Int) + 1)) (by simp [TokA, results, Tryz.results50, go_sem, *]) rfl ?_
              exact WordIs.some_ HX.out rfl rfl (by first | rfl | omega | (have := HN4.out; omega)) (by first | rfl | rw [HT.out] | exact HT.out.symm | exact HT.out) (set4X (hwA.trans (tb.mono hwA.size)) (Nat.le_refl _) _ _ _ _)
            ·
              have m91 : ((s[a].toNat : Int) == 91) = false := (u8k 91 (by decide)).trans (decide_eq_false (by rw [hc]; decide))
              have m93 : ((s[a].toNat : Int) == 93) = false := (u8k 93 (by decide)).trans (decide_eq_false (by rw [hc]; decide))
              have m40 : ((s[a].toNat : Int) == 40) = false := (u8k 40 (by decide)).trans (decide_eq_false (by rw [hc]; decide))
              have m41 : ((s[a].toNat : Int) == 41) = false := (u8k 41 (by decide)).trans (decide_eq_false (by rw [hc]; decide))
              have m123 : ((s[a].toNat : Int) == 123) = false := (u8k 123 (by decide)).trans (decide_eq_false (by rw [hc]; decide))
              have m125 : ((s[a].toNat : Int) == 125) = true := (u8k 125 (by decide)).trans (decide_eq_true hc)
              have m44 : ((s[a].toNat : Int) == 44) = false := (u8k 44 (by decide)).trans (decide_eq_false (by rw [hc]; decide))
              have m59 : ((s[a].toNat : Int) == 59) = false := (u8k 59 (by decide)).trans (decide_eq_false (by rw [hc]; decide))
              clear hc
              go_enter Tryz.func50, Tryz.ntmps50
              go_wp2_with fail
              generalize hw0 : w.alloc (.cells #[.int .i64 0, .string ⟨#[]⟩, .int .i64 0, .int .i64 0] 41) = w0 at *
              replace hwA : Below w.heap.size w w0 := by rw [← hw0]; exact hwA
              replace hkA : w0.heap[w.heap.size]? = some (.cells #[.int .i64 0, .string ⟨#[]⟩, .int .i64 0, .int .i64 0] 41 (0, 0)) := by rw [← hw0]; exact hkA
              clear hw0
              have tb : Below w0.heap.size w0 w0 := Below.refl _ _
              obtain ⟨⟨c0, c1, c2, c3⟩, f0, f1, f2, f3⟩ := four_later hkA tb
              go_wp2_with (first | (go_at_call 90; (with_reducible refine (HI.out _).mono ?_); rintro e w1 ⟨rfl, rfl⟩) | (go_at_call 90; (with_reducible refine (HI2.out _).mono ?_); rintro e w1 ⟨rfl, rfl⟩) | (go_at_call 91; ((with_reducible refine (HL.out _).mono ?_); rintro e w1 ⟨rfl, hb1⟩; have tb := tb.trans (hb1.mono tb.size); obtain ⟨⟨c0, c1, c2, c3⟩, f0, f1, f2, f3⟩ := four_later hkA tb)) | (go_at_call 89; (with_reducible refine (HP.out _).mono ?_); rintro e w1 ⟨rfl, rfl⟩) | (go_at_call 92; ((with_reducible refine (HM.out _).mono ?_); rintro e w1 ⟨rfl, hb1⟩; have tb := tb.trans (hb1.mono tb.size); obtain ⟨⟨c0, c1, c2, c3⟩, f0, f1, f2, f3⟩ := four_later hkA tb)) | (go_at_call 93; (with_reducible refine (HD.out _).mono ?_); rintro e w1 ⟨rfl, rfl⟩) | (go_at_call 94; (with_reducible refine (HNu.out _).mono ?_); rintro e w1 ⟨rfl, rfl⟩) | (go_at_call 95; ((with_reducible refine (HQ.out _).mono ?_); rintro e w1 ⟨rfl, hb1⟩; have tb := tb.trans (hb1.mono tb.size); obtain ⟨⟨c0, c1, c2, c3⟩, f0, f1, f2, f3⟩ := four_later hkA tb)))
              refine bodyPost_ret (v := TokA 5 (s.extract a (a + 1)) 0 a ((a : Int) + 1)) (by simp [TokA, results, Tryz.results50, go_sem, *]) rfl ?_
              exact WordIs.some_ HX.out rfl rfl (by first | rfl | omega | (have := HN4.out; omega)) (by first | rfl | rw [HT.out] | exact HT.out.symm | exact HT.out) (set4X (hwA.trans (tb.mono hwA.size)) (Nat.le_refl _) _ _ _ _)
            ·
              have m91 : ((s[a].toNat : Int) == 91) = false := (u8k 91 (by decide)).trans (decide_eq_false (by rw [hc]; decide))
              have m93 : ((s[a].toNat : Int) == 93) = false := (u8k 93 (by decide)).trans (decide_eq_false (by rw [hc]; decide))
              have m40 : ((s[a].toNat : Int) == 40) = false := (u8k 40 (by decide)).trans (decide_eq_false (by rw [hc]; decide))
              have m41 : ((s[a].toNat : Int) == 41) = false := (u8k 41 (by decide)).trans (decide_eq_false (by rw [hc]; decide))
              have m123 : ((s[a].toNat : Int) == 123) = false := (u8k 123 (by decide)).trans (decide_eq_false (by rw [hc]; decide))
              have m125 : ((s[a].toNat : Int) == 125) = false := (u8k 125 (by decide)).trans (decide_eq_false (by rw [hc]; decide))
              have m44 : ((s[a].toNat : Int) == 44) = true := (u8k 44 (by decide)).trans (decide_eq_true hc)
              have m59 : ((s[a].toNat : Int) == 59) = false := (u8k 59 (by decide)).trans (decide_eq_false (by rw [hc]; decide))
              clear hc
              go_enter Tryz.func50, Tryz.ntmps50
              go_wp2_with fail
              generalize hw0 : w.alloc (.cells #[.int .i64 0, .string ⟨#[]⟩, .int .i64 0, .int .i64 0] 41) = w0 at *
              replace hwA : Below w.heap.size w w0 := by rw [← hw0]; exact hwA
              replace hkA : w0.heap[w.heap.size]? = some (.cells #[.int .i64 0, .string ⟨#[]⟩, .int .i64 0, .int .i64 0] 41 (0, 0)) := by rw [← hw0]; exact hkA
              clear hw0
              have tb : Below w0.heap.size w0 w0 := Below.refl _ _
              obtain ⟨⟨c0, c1, c2, c3⟩, f0, f1, f2, f3⟩ := four_later hkA tb
              go_wp2_with (first | (go_at_call 90; (with_reducible refine (HI.out _).mono ?_); rintro e w1 ⟨rfl, rfl⟩) | (go_at_call 90; (with_reducible refine (HI2.out _).mono ?_); rintro e w1 ⟨rfl, rfl⟩) | (go_at_call 91; ((with_reducible refine (HL.out _).mono ?_); rintro e w1 ⟨rfl, hb1⟩; have tb := tb.trans (hb1.mono tb.size); obtain ⟨⟨c0, c1, c2, c3⟩, f0, f1, f2, f3⟩ := four_later hkA tb)) | (go_at_call 89; (with_reducible refine (HP.out _).mono ?_); rintro e w1 ⟨rfl, rfl⟩) | (go_at_call 92; ((with_reducible refine (HM.out _).mono ?_); rintro e w1 ⟨rfl, hb1⟩; have tb := tb.trans (hb1.mono tb.size); obtain ⟨⟨c0, c1, c2, c3⟩, f0, f1, f2, f3⟩ := four_later hkA tb)) | (go_at_call 93; (with_reducible refine (HD.out _).mono ?_); rintro e w1 ⟨rfl, rfl⟩) | (go_at_call 94; (with_reducible refine (HNu.out _).mono ?_); rintro e w1 ⟨rfl, rfl⟩) | (go_at_call 95; ((with_reducible refine (HQ.out _).mono ?_); rintro e w1 ⟨rfl, hb1⟩; have tb := tb.trans (hb1.mono tb.size); obtain ⟨⟨c0, c1, c2, c3⟩, f0, f1, f2, f3⟩ := four_later hkA tb)))
              refine bodyPost_ret (v := TokA 5 (s.extract a (a + 1)) 0 a ((a : Int) + 1)) (by simp [TokA, results, Tryz.results50, go_sem, *]) rfl ?_
              exact WordIs.some_ HX.out rfl rfl (by first | rfl | omega | (have := HN4.out; omega)) (by first | rfl | rw [HT.out] | exact HT.out.symm | exact HT.out) (set4X (hwA.trans (tb.mono hwA.size)) (Nat.le_refl _) _ _ _ _)
            ·
              have m91 : ((s[a].toNat : Int) == 91) = false := (u8k 91 (by decide)).trans (decide_eq_false (by rw [hc]; decide))
              have m93 : ((s[a].toNat : Int) == 93) = false := (u8k 93 (by decide)).trans (decide_eq_false (by rw [hc]; decide))
              have m40 : ((s[a].toNat : Int) == 40) = false := (u8k 40 (by decide)).trans (decide_eq_false (by rw [hc]; decide))
              have m41 : ((s[a].toNat : Int) == 41) = false := (u8k 41 (by decide)).trans (decide_eq_false (by rw [hc]; decide))
              have m123 : ((s[a].toNat : Int) == 123) = false := (u8k 123 (by decide)).trans (decide_eq_false (by rw [hc]; decide))
              have m125 : ((s[a].toNat : Int) == 125) = false := (u8k 125 (by decide)).trans (decide_eq_false (by rw [hc]; decide))
              have m44 : ((s[a].toNat : Int) == 44) = false := (u8k 44 (by decide)).trans (decide_eq_false (by rw [hc]; decide))
              have m59 : ((s[a].toNat : Int) == 59) = true := (u8k 59 (by decide)).trans (decide_eq_true hc)
              clear hc
              go_enter Tryz.func50, Tryz.ntmps50
              go_wp2_with fail
              generalize hw0 : w.alloc (.cells #[.int .i64 0, .string ⟨#[]⟩, .int .i64 0, .int .i64 0] 41) = w0 at *
              replace hwA : Below w.heap.size w w0 := by rw [← hw0]; exact hwA
              replace hkA : w0.heap[w.heap.size]? = some (.cells #[.int .i64 0, .string ⟨#[]⟩, .int .i64 0, .int .i64 0] 41 (0, 0)) := by rw [← hw0]; exact hkA
              clear hw0
              have tb : Below w0.heap.size w0 w0 := Below.refl _ _
              obtain ⟨⟨c0, c1, c2, c3⟩, f0, f1, f2, f3⟩ := four_later hkA tb
              go_wp2_with (first | (go_at_call 90; (with_reducible refine (HI.out _).mono ?_); rintro e w1 ⟨rfl, rfl⟩) | (go_at_call 90; (with_reducible refine (HI2.out _).mono ?_); rintro e w1 ⟨rfl, rfl⟩) | (go_at_call 91; ((with_reducible refine (HL.out _).mono ?_); rintro e w1 ⟨rfl, hb1⟩; have tb := tb.trans (hb1.mono tb.size); obtain ⟨⟨c0, c1, c2, c3⟩, f0, f1, f2, f3⟩ := four_later hkA tb)) | (go_at_call 89; (with_reducible refine (HP.out _).mono ?_); rintro e w1 ⟨rfl, rfl⟩) | (go_at_call 92; ((with_reducible refine (HM.out _).mono ?_); rintro e w1 ⟨rfl, hb1⟩; have tb := tb.trans (hb1.mono tb.size); obtain ⟨⟨c0, c1, c2, c3⟩, f0, f1, f2, f3⟩ := four_later hkA tb)) | (go_at_call 93; (with_reducible refine (HD.out _).mono ?_); rintro e w1 ⟨rfl, rfl⟩) | (go_at_call 94; (with_reducible refine (HNu.out _).mono ?_); rintro e w1 ⟨rfl, rfl⟩) | (go_at_call 95; ((with_reducible refine (HQ.out _).mono ?_); rintro e w1 ⟨rfl, hb1⟩; have tb := tb.trans (hb1.mono tb.size); obtain ⟨⟨c0, c1, c2, c3⟩, f0, f1, f2, f3⟩ := four_later hkA tb)))
              refine bodyPost_ret (v := TokA 5 (s.extract a (a + 1)) 0 a ((a : Int) + 1)) (by simp [TokA, results, Tryz.results50, go_sem, *]) rfl ?_
              exact WordIs.some_ HX.out rfl rfl (by first | rfl | omega | (have := HN4.out; omega)) (by first | rfl | rw [HT.out] | exact HT.out.symm | exact HT.out) (set4X (hwA.trans (tb.mono hwA.size)) (Nat.le_refl _) _ _ _ _)
          · rw [if_neg hm] at hX0
            have hmc : ¬ (s[a] = 91 ∨ s[a] = 93 ∨ s[a] = 40 ∨ s[a] = 41 ∨ s[a] = 123 ∨ s[a] = 125 ∨ s[a] = 44 ∨ s[a] = 59) := fun g => hm (by unfold isMk; exact decide_eq_true g)
            have HX := Lib.hid hX0
            clear hX0 hm
            have m91 : ((s[a].toNat : Int) == 91) = false := (u8k 91 (by decide)).trans (decide_eq_false fun g => hmc (.inl g))
            have m93 : ((s[a].toNat : Int) == 93) = false := (u8k 93 (by decide)).trans (decide_eq_false fun g => hmc (.inr (.inl g)))
            have m40 : ((s[a].toNat : Int) == 40) = false := (u8k 40 (by decide)).trans (decide_eq_false fun g => hmc (.inr (.inr (.inl g))))
            have m41 : ((s[a].toNat : Int) == 41) = false := (u8k 41 (by decide)).trans (decide_eq_false fun g => hmc (.inr (.inr (.inr (.inl g)))))
            have m123 : ((s[a].toNat : Int) == 123) = false := (u8k 123 (by decide)).trans (decide_eq_false fun g => hmc (.inr (.inr (.inr (.inr (.inl g))))))
            have m125 : ((s[a].toNat : Int) == 125) = false := (u8k 125 (by decide)).trans (decide_eq_false fun g => hmc (.inr (.inr (.inr (.inr (.inr (.inl g)))))))
            have m44 : ((s[a].toNat : Int) == 44) = false := (u8k 44 (by decide)).trans (decide_eq_false fun g => hmc (.inr (.inr (.inr (.inr (.inr (.inr (.inl g))))))))
            have m59 : ((s[a].toNat : Int) == 59) = false := (u8k 59 (by decide)).trans (decide_eq_false fun g => hmc (.inr (.inr (.inr (.inr (.inr (.inr (.inr (g)))))))))
            clear hmc
            go_enter Tryz.func50, Tryz.ntmps50
            go_wp2_with fail
            generalize hw0 : w.alloc (.cells #[.int .i64 0, .string ⟨#[]⟩, .int .i64 0, .int .i64 0] 41) = w0 at *
            replace hwA : Below w.heap.size w w0 := by rw [← hw0]; exact hwA
            replace hkA : w0.heap[w.heap.size]? = some (.cells #[.int .i64 0, .string ⟨#[]⟩, .int .i64 0, .int .i64 0] 41 (0, 0)) := by rw [← hw0]; exact hkA
            clear hw0
            have tb : Below w0.heap.size w0 w0 := Below.refl _ _
            obtain ⟨⟨c0, c1, c2, c3⟩, f0, f1, f2, f3⟩ := four_later hkA tb
            go_wp2_with (first | (go_at_call 90; (with_reducible refine (HI.out _).mono ?_); rintro e w1 ⟨rfl, rfl⟩) | (go_at_call 90; (with_reducible refine (HI2.out _).mono ?_); rintro e w1 ⟨rfl, rfl⟩) | (go_at_call 91; ((with_reducible refine (HL.out _).mono ?_); rintro e w1 ⟨rfl, hb1⟩; have tb := tb.trans (hb1.mono tb.size); obtain ⟨⟨c0, c1, c2, c3⟩, f0, f1, f2, f3⟩ := four_later hkA tb)) | (go_at_call 89; (with_reducible refine (HP.out _).mono ?_); rintro e w1 ⟨rfl, rfl⟩) | (go_at_call 92; ((with_reducible refine (HM.out _).mono ?_); rintro e w1 ⟨rfl, hb1⟩; have tb := tb.trans (hb1.mono tb.size); obtain ⟨⟨c0, c1, c2, c3⟩, f0, f1, f2, f3⟩ := four_later hkA tb)) | (go_at_call 93; (with_reducible refine (HD.out _).mono ?_); rintro e w1 ⟨rfl, rfl⟩) | (go_at_call 94; (with_reducible refine (HNu.out _).mono ?_); rintro e w1 ⟨rfl, rfl⟩) | (go_at_call 95; ((with_reducible refine (HQ.out _).mono ?_); rintro e w1 ⟨rfl, hb1⟩; have tb := tb.trans (hb1.mono tb.size); obtain ⟨⟨c0, c1, c2, c3⟩, f0, f1, f2, f3⟩ := four_later hkA tb)))
            refine bodyPost_ret (v := TokA 0 ⟨#[]⟩ 0 (0) (-1)) (by simp [TokA, results, Tryz.results50, go_sem, *]) rfl ?_
            exact WordIs.none_ HX.out (set4X (hwA.trans (tb.mono hwA.size)) (Nat.le_refl _) _ _ _ _)
end Go.Proofs.YtgimgkjggaijoaaGreatDoor
namespace Go.Proofs.YtgimgkjggaijoaaGreatDoor
open Go.RowKit Pk Lx

set_option maxHeartbeats 8000000 in
set_option maxRecDepth 100000 in
theorem scanQ_any (s : ByteArray) (w : World) (hs : s.size ≤ 5000000) : Calls Tryz.prog 23 #[.string s] w (ScanIs s w) := by
  have HP := Lib.hid (fun k (hk : k < s.size) w1 => passQ_any s k w1 (by omega) hk)
  have HWd := Lib.hid (fun k (hk : k < s.size) w1 => wordQ_any s k w1 hs hk)
  go_enter Tryz.func23, Tryz.ntmps23
  go_wp2
  go_loopw [5, 6] (fun ov iv wr => ∃ (k : Nat) (acc : List (Tok × Nat)), iv = .int .i64 k ∧ k ≤ s.size ∧ acc.length ≤ k ∧ ownsG lexLay wr w.heap.size 41 ov (acc.map lexOf) ∧ Below w.heap.size w wr ∧ Hid (RunAt s k acc)) (fun _ iv _ => s.size - (intOf iv).toNat)
  case atStart => exact ⟨0, [], by first | rfl | trivial, Nat.zero_le _, Nat.le_refl _, ownsG.nil _ _ _ _, Below.refl _ _, runAt_begin s⟩
  case round =>
    obtain ⟨k, acc, rfl, hk, hal, hown, hbel, hrel⟩ := hrel
    have hsz := hbel.size
    by_cases hlt : k < s.size
    · have hSp := HP.out k hlt
      have hsl := fun n (h : spaceL (tl s k) = some n) => spaceL_le h
      rw [tl_length] at hsl
      unfold PassIs at hSp
      cases hsp : spaceL (tl s k) with
      | none =>
        have hX := Lib.hid (runAt_bad1 hrel.out hlt hsp)
        rw [hsp] at hSp
        have HSp := Lib.hid (show ∀ w1, Calls Tryz.prog 49 #[.string s, .int .i64 k] w1 fun e w' => e = .returned (.int .i64 (-1)) ∧ w1 = w' from hSp)
        have q1 : ((-1 : Int) == (k : Int)) = false := beq_eq_false_iff_ne.2 (by omega)
        clear hSp hsl hsp hrel hown
        go_wp2_with (go_at_call 49; (with_reducible refine (HSp.out _).mono ?_); rintro e w1 ⟨rfl, rfl⟩)
        go_ret3
        exact ⟨acc, .inr ⟨k, hX.out, rfl⟩, hbel⟩
      | some n =>
        have hnl := hsl n hsp
        rw [hsp] at hSp
        have HSp := Lib.hid (show ∀ w1, Calls Tryz.prog 49 #[.string s, .int .i64 k] w1 fun e w' => e = .returned (.int .i64 ((k : Int) + (n : Int))) ∧ w1 = w' from hSp)
        by_cases hn0 : 0 < n
        · have hnx := Lib.hid (runAt_sp hrel.out hn0 hsp)
          have q1 : ((k : Int) + (n : Int) == (k : Int)) = false := beq_eq_false_iff_ne.2 (by omega)
          clear hSp hsl hsp hrel
          go_wp2_with (go_at_call 49; (with_reducible refine (HSp.out _).mono ?_); rintro e w1 ⟨rfl, rfl⟩)
          go_roundw
          case rel => exact ⟨k + n, acc, by go_num, by omega, by omega, hown, hbel, hnx⟩
          case measure => simp [intOf]; omega
        · obtain rfl : n = 0 := by omega
          have HSp := Lib.hid (show ∀ w, Calls Tryz.prog 49 #[.string s, .int .i64 k] w fun e w' => e = .returned (.int .i64 (k : Int)) ∧ w = w' from fun w => by have := HSp.out w; rwa [show ((k : Int) + ((0 : Nat) : Int)) = (k : Int) by omega] at this)
          have hTk := HWd.out k hlt
          have hnx := fun t n (h : tokenL (tl s k) = some (t, n)) => runAt_tok hrel.out hlt hsp h
          have hbd := runAt_bad2 hrel.out hlt hsp
          have hpo := fun t n (h : tokenL (tl s k) = some (t, n)) => tokenL_pos h
          rw [tl_length] at hpo
          have q1 : ((k : Int) == (k : Int)) = true := beq_self_eq_true _
          clear hSp hsl hsp hrel
          unfold WordIs TokA at hTk
          cases htk : tokenL (tl s k) with
          | none =>
            have hX := Lib.hid (hbd htk)
            rw [htk] at hTk
            have HTk := Lib.hid hTk
            clear hTk hnx hbd hpo htk
            go_wp2_with (first
              | (go_at_call 49; (with_reducible refine (HSp.out _).mono ?_); rintro e w1 ⟨rfl, rfl⟩)
              | (go_at_call 50; go_loud ((with_reducible refine (HTk.out _).mono ?_); rintro e w2 ⟨⟨k2, t2, n2, x2, m2, rfl, rfl⟩, hb2⟩))
              | (at_builtin; go_loud (refine append_g _ rfl (.tmp 26) (.tmp 28) slL rfl w.heap.size _ (acc.map lexOf) rfl (ownsG.alloc (ownsG.alloc (hown.below hb2 (Nat.le_refl _)) _) _) ⟨_, 0, none⟩ [⟨k2, t2, n2, x2⟩] 1 1 rfl rfl (cells_at _ _ (by simp) _ _) (by rw [List.length_map]; omega) (by rw [List.length_map]; omega) (by have := hb2.size; simp; omega) ?_; intro v6 w6 hown6 hg6; have hbB := ((hbel.trans (hb2.mono hsz)).alloc (Nat.le_trans hsz hb2.size) (.cells #[.int .i64 k2, .string t2, .int .i64 n2, .int .i64 x2] 41)).alloc (by have := hb2.size; simp; omega) (.cells #[.int .i64 k2, .string t2, .int .i64 n2, .int .i64 x2] 41); have hb6 := Below_grownG hbB (ownsG.alloc (ownsG.alloc (hown.below hb2 (Nat.le_refl _)) _) _) hg6 (by have := hb2.size; simp; omega); clear hg6 hbB)))
            go_ret3
            exact ⟨acc, .inr ⟨k, hX.out, rfl⟩, hb6⟩
          | some p =>
            obtain ⟨⟨tk, tt, tn⟩, m⟩ := p
            have hnx := Lib.hid (hnx _ _ htk)
            have hpo := hpo _ _ htk
            rw [htk] at hTk
            have HTk := Lib.hid hTk
            clear hTk hbd htk
            go_wp2_with (first
              | (go_at_call 49; (with_reducible refine (HSp.out _).mono ?_); rintro e w1 ⟨rfl, rfl⟩)
              | (go_at_call 50; go_loud ((with_reducible refine (HTk.out _).mono ?_); rintro e w2 ⟨⟨k2, t2, n2, x2, m2, rfl, rfl, rfl, rfl, rfl, rfl⟩, hb2⟩))
              | (at_builtin; go_loud (refine append_g _ rfl (.tmp 26) (.tmp 28) slL rfl w.heap.size _ (acc.map lexOf) rfl (ownsG.alloc (ownsG.alloc (hown.below hb2 (Nat.le_refl _)) _) _) ⟨_, 0, none⟩ [lexOf (⟨tk, tt, tn⟩, k)] 1 1 rfl rfl (cells_at _ _ (by simp) _ _) (by rw [List.length_map]; omega) (by rw [List.length_map]; omega) (by have := hb2.size; simp; omega) ?_; intro v6 w6 hown6 hg6; have hbB := ((hbel.trans (hb2.mono hsz)).alloc (Nat.le_trans hsz hb2.size) (.cells #[.int .i64 tk, .string (toB tt), .int .i64 tn, .int .i64 k] 41)).alloc (by have := hb2.size; simp; omega) (.cells #[.int .i64 tk, .string (toB tt), .int .i64 tn, .int .i64 k] 41); have hb6 := Below_grownG hbB (ownsG.alloc (ownsG.alloc (hown.below hb2 (Nat.le_refl _)) _) _) hg6 (by have := hb2.size; simp; omega); clear hg6 hbB)))
            go_roundw
            case rel => exact ⟨k + m, acc ++ [(⟨tk, tt, tn⟩, k)], by go_num, by omega, by rw [List.length_append, List.length_singleton]; omega, by rw [List.map_append]; exact hown6, hb6, hnx⟩
            case measure => simp [intOf]; omega
    · have hX := Lib.hid (runAt_end hrel.out hlt)
      clear hrel
      go_wp2
      go_ret3
      exact ⟨acc, .inl ⟨_, hX.out, rfl, hown⟩, hbel⟩
end Go.Proofs.YtgimgkjggaijoaaGreatDoor
