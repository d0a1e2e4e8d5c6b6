/- Walks: valid names and arguments of filter scripts. Walks: valid arguments of filter scripts. Walks: slices.ContainsFunc over arguments, tests and commands. Walks: valid tests and commands of filter scripts. -/
import Derived.Test.YtgimgkjggaijoaaGreatDoorSvSa
import Derived.Test.YtgimgkjggaijoaaGreatDoorLxK
namespace Lx
open Go Pk
def NameAt (s : ByteArray) (i : Nat) (X : Bool) : Prop := allN i (tl s i) = X
theorem nameAt_step {s : ByteArray} {i : Nat} {X : Bool} (h : NameAt s i X) (hi : i < s.size) : (okN i s[i] = true → NameAt s (i + 1) X) ∧ (okN i s[i] = false → X = false) := by
  unfold NameAt at *
  rw [tl_cons s i hi] at h
  unfold allN at h
  refine ⟨fun h1 => ?_, fun h1 => ?_⟩
  · rw [h1, Bool.true_and] at h; exact h
  · rw [h1, Bool.false_and] at h; exact h.symm
theorem nameAt_end {s : ByteArray} {i : Nat} {X : Bool} (h : NameAt s i X) (hi : ¬ i < s.size) : X = true := by
  unfold NameAt at h
  rw [tl_end s i (by omega)] at h
  exact h.symm
end Lx
namespace Go.Proofs.YtgimgkjggaijoaaGreatDoor
open Go.RowKit Pk Lx Sv

def BoolRet (b : Bool) (w : World) (e : Ending) (w' : World) : Prop := e = .returned (.bool b) ∧ w = w'
set_option maxHeartbeats 4000000 in
set_option maxRecDepth 100000 in
theorem named_any (s : ByteArray) (w : World) (hs : s.size ≤ 100000000) : Calls Tryz.prog 83 #[.string s] w (BoolRet (nameB s.data.toList) w) := by
  rw [nameB_all]
  have hst : Hid (NameAt s 0 (allN 0 s.data.toList)) := by show allN 0 (tl s 0) = _; rw [tl_zero]
  generalize allN 0 s.data.toList = X at *
  obtain ⟨E, hE⟩ : ∃ E, E = s.data.toList.isEmpty := ⟨_, rfl⟩
  rw [← hE]
  have hE2 : (s.toList != []) = !E := by
    rw [Lib.toList_data, hE]
    cases s.data.toList <;> rfl
  have hE3 : s.toList.isEmpty = E := by rw [Lib.toList_data, hE]
  have HE := Lib.hid hE
  clear hE
  go_enter Tryz.func83, Tryz.ntmps83
  go_wp2
  go_loop [3, 4, 7] (fun _ _ iv => ∃ i : Nat, i ≤ s.size ∧ iv = .int .i64 i ∧ Hid (NameAt s i X)) (fun _ _ iv => s.size - (intOf iv).toNat)
  case atStart => exact ⟨0, by omega, by first | rfl | trivial, hst⟩
  case round =>
    obtain ⟨i, hi, rfl, hrel⟩ := hrel
    clear hst
    by_cases hlt : i < s.size
    · obtain ⟨s1, s2⟩ := nameAt_step hrel.out hlt
      have hcb := s[i].toNat_lt
      by_cases h3 : s[i].toNat = 95
      · have hn := Lib.hid (s1 (by unfold okN lowW; rw [decide_eq_true (Or.inr h3)]; rfl))
        have q1 : ((s[i].toNat : Int) != 95) = false := by rw [h3]; rfl
        clear s1 s2 hrel h3
        go_wp2
        go_round
        case rel => exact ⟨i + 1, by omega, by go_num, hn⟩
        case measure => simp [intOf]; omega
      · have q1 : ((s[i].toNat : Int) != 95) = true := bne_iff_ne.2 (by omega)
        by_cases h1 : 97 ≤ s[i].toNat ∧ s[i].toNat ≤ 122
        · have hn := Lib.hid (s1 (by unfold okN lowW; rw [decide_eq_true (Or.inl h1)]; rfl))
          have q2 : decide ((s[i].toNat : Int) < 97) = false := decide_eq_false (by omega)
          have q3 : decide ((122 : Int) < (s[i].toNat : Int)) = false := decide_eq_false (by omega)
          clear s1 s2 hrel h3 h1
          go_wp2
          go_round
          case rel => exact ⟨i + 1, by omega, by go_num, hn⟩
          case measure => simp [intOf]; omega
        · have hlw : lowW s[i] = false := by unfold lowW; exact decide_eq_false (by omega)
          by_cases h2 : s[i].toNat < 97
          · have q2 : decide ((s[i].toNat : Int) < 97) = true := decide_eq_true (by omega)
            by_cases h0 : i = 0
            · have q4 : ((i : Int) == 0) = true := beq_iff_eq.2 (by omega)
              have hn := Lib.hid (s2 (by unfold okN; rw [hlw, decide_eq_false (by omega : ¬ 0 < i)]; rfl))
              clear s1 s2 hrel hlw h0 h1 h2 h3
              go_wp2
              go_ret
              exact ⟨by rw [hn.out]; rfl, rfl⟩
            · have q4 : ((i : Int) == 0) = false := beq_eq_false_iff_ne.2 (by omega)
              by_cases h4 : 48 ≤ s[i].toNat ∧ s[i].toNat ≤ 57
              · have hn := Lib.hid (s1 (by unfold okN isDig; rw [hlw, decide_eq_true h4, decide_eq_true (by omega : 0 < i)]; rfl))
                have q5 : decide ((57 : Int) < (s[i].toNat : Int)) = false := decide_eq_false (by omega)
                have q6 : decide ((s[i].toNat : Int) < 48) = false := decide_eq_false (by omega)
                clear s1 s2 hrel hlw h0 h4 h1 h2 h3
                go_wp2
                go_round
                case rel => exact ⟨i + 1, by omega, by go_num, hn⟩
                case measure => simp [intOf]; omega
              · have hn := Lib.hid (s2 (by unfold okN isDig; rw [hlw, decide_eq_false h4]; simp))
                by_cases h5 : s[i].toNat < 48
                · have q6 : decide ((s[i].toNat : Int) < 48) = true := decide_eq_true (by omega)
                  clear s1 s2 hrel hlw h0 h4 h1 h2 h3
                  go_wp2
                  go_ret
                  exact ⟨by rw [hn.out]; rfl, rfl⟩
                · have q6 : decide ((s[i].toNat : Int) < 48) = false := decide_eq_false (by omega)
                  have q5 : decide ((57 : Int) < (s[i].toNat : Int)) = true := decide_eq_true (by omega)
                  clear s1 s2 hrel hlw h0 h4 h1 h2 h3
                  go_wp2
                  go_ret
                  exact ⟨by rw [hn.out]; rfl, rfl⟩
          · have q2 : decide ((s[i].toNat : Int) < 97) = false := decide_eq_false (by omega)
            have q3 : decide ((122 : Int) < (s[i].toNat : Int)) = true := decide_eq_true (by omega)
            have q5 : decide ((57 : Int) < (s[i].toNat : Int)) = true := decide_eq_true (by omega)
            have q6 : decide ((s[i].toNat : Int) < 48) = false := decide_eq_false (by omega)
            have hn := Lib.hid (s2 (by unfold okN; rw [hlw]; unfold isDig; rw [decide_eq_false (by omega : ¬ (48 ≤ s[i].toNat ∧ s[i].toNat ≤ 57))]; simp))
            clear s1 s2 hrel hlw h1 h2 h3
            by_cases h0 : i = 0
            · have q4 : ((i : Int) == 0) = true := beq_iff_eq.2 (by omega)
              clear h0
              go_wp2
              go_ret
              exact ⟨by rw [hn.out]; rfl, rfl⟩
            · have q4 : ((i : Int) == 0) = false := beq_eq_false_iff_ne.2 (by omega)
              clear h0
              go_wp2
              go_ret
              exact ⟨by rw [hn.out]; rfl, rfl⟩
    · have hn := Lib.hid (nameAt_end hrel.out hlt)
      clear hrel
      go_wp2
      go_ret
      exact ⟨by rw [hn.out]; rfl, rfl⟩
end Go.Proofs.YtgimgkjggaijoaaGreatDoor
namespace Go.Proofs.YtgimgkjggaijoaaGreatDoor
open Go.RowKit Pk Lx Sv

/-- a Boolean, with what was there as it was -/
def BlRet (b : Bool) (w : World) (e : Ending) (w' : World) : Prop := e = .returned (.bool b) ∧ Below w.heap.size w w'
theorem fitK1 {a : ArgT} (h : a.k = 1) : fitsB a = (nameB a.tag.data.toList && (decide (a.n = 0) && (decide (a.texts.length = 0) && !a.list))) := by unfold fitsB; rw [if_pos h]
theorem fitK2 {a : ArgT} (h : a.k = 2) : fitsB a = (decide (a.tag.size = 0) && (decide (a.texts.length = 0) && (!a.list && (decide (0 ≤ a.n) && (decide (a.n ≤ 999999999999) || (decide (a.n ≤ 1099511627776) && decide (a.n % 1024 = 0))))))) := by unfold fitsB; rw [if_neg (by omega), if_pos h]
theorem fitK3 {a : ArgT} (h : a.k = 3) : fitsB a = (decide (a.tag.size = 0) && (decide (a.n = 0) && (decide (0 < a.texts.length) && (a.list || decide (a.texts.length = 1))))) := by unfold fitsB; rw [if_neg (by omega), if_neg (by omega), if_pos h]
theorem fitK0 {a : ArgT} (h1 : ¬ a.k = 1) (h2 : ¬ a.k = 2) (h3 : ¬ a.k = 3) : fitsB a = false := by unfold fitsB; rw [if_neg h1, if_neg h2, if_neg h3]
theorem tag_nil (b : ByteArray) : (b.toList == ([] : List UInt8)) = decide (b.size = 0) := by
  rw [Lib.toList_data]
  have : b.size = b.data.toList.length := rfl
  rw [this]
  cases b.data.toList <;> simp
set_option maxHeartbeats 4000000 in
set_option maxRecDepth 100000 in
theorem fits_any (p : Option Addr) (n c : Nat) (a : ArgT) (w : World) (hn : n = a.texts.length) (hs : a.tag.size ≤ 100000000) : Calls Tryz.prog 86 #[.agg #[.int .i64 a.k, .string a.tag, .int .i64 a.n, .slice p n c, .bool a.list]] w (BlRet (fitsB a) w) := by
  have hB := (Below.refl w.heap.size w).alloc (Nat.le_refl _) (.cells #[.int .i64 a.k, .string a.tag, .int .i64 a.n, .slice p n c, .bool a.list] 50)
  have HB := Lib.hid hB
  have HN := Lib.hid (fun w1 => named_any a.tag w1 hs)
  have hT := tag_nil a.tag
  have hT2 : a.tag.toList.isEmpty = decide (a.tag.size = 0) := by rw [← hT]; cases a.tag.toList <;> rfl
  have f1 := fitK1 (a := a)
  have f2 := fitK2 (a := a)
  have f3 := fitK3 (a := a)
  have f0 := fitK0 (a := a)
  rw [← hn] at f1 f2 f3
  generalize fitsB a = X at *
  generalize nameB a.tag.data.toList = nb at *
  generalize a.tag.size = ts at *
  generalize a.k = K at *
  generalize a.n = N at *
  generalize a.list = ls at *
  generalize a.tag = tg at *
  clear hB hs hn
  by_cases h1 : K = 1
  · have hX := f1 h1
    subst h1
    clear f0 f1 f2 f3
    cases nb with
    | false =>
      replace hX : X = false := by rw [hX]; rfl
      have HX := Lib.hid hX
      clear hX hT hT2
      go_enter Tryz.func86, Tryz.ntmps86
      go_wp2_with (go_at_call 83; refine (HN.out _).mono ?_; rintro e w1 ⟨rfl, rfl⟩)
      go_ret
      exact ⟨by rw [HX.out]; rfl, HB.out⟩
    | true =>
      by_cases e1 : N = 0
      · have k1 : (N == 0) = true := beq_iff_eq.2 e1
        rw [decide_eq_true e1] at hX
        by_cases e2 : n = 0
        · have k2 : ((n : Int) == 0) = true := beq_iff_eq.2 (by omega)
          rw [decide_eq_true e2] at hX
          replace hX : X = !ls := by rw [hX]; rfl
          have HX := Lib.hid hX
          clear hX hT hT2 e1 e2
          go_enter Tryz.func86, Tryz.ntmps86
          go_wp2_with (go_at_call 83; refine (HN.out _).mono ?_; rintro e w1 ⟨rfl, rfl⟩)
          go_ret
          exact ⟨by rw [HX.out]; rfl, HB.out⟩
        · have k2 : ((n : Int) == 0) = false := beq_eq_false_iff_ne.2 (by omega)
          rw [decide_eq_false e2] at hX
          replace hX : X = false := by rw [hX]; rfl
          have HX := Lib.hid hX
          clear hX hT hT2 e1 e2
          go_enter Tryz.func86, Tryz.ntmps86
          go_wp2_with (go_at_call 83; refine (HN.out _).mono ?_; rintro e w1 ⟨rfl, rfl⟩)
          go_ret
          exact ⟨by rw [HX.out]; rfl, HB.out⟩
      · have k1 : (N == 0) = false := beq_eq_false_iff_ne.2 e1
        rw [decide_eq_false e1] at hX
        replace hX : X = false := by rw [hX]; rfl
        have HX := Lib.hid hX
        clear hX hT hT2 e1
        go_enter Tryz.func86, Tryz.ntmps86
        go_wp2_with (go_at_call 83; refine (HN.out _).mono ?_; rintro e w1 ⟨rfl, rfl⟩)
        go_ret
        exact ⟨by rw [HX.out]; rfl, HB.out⟩
  · have n1 : (K == 1) = false := beq_eq_false_iff_ne.2 h1
    by_cases h2 : K = 2
    · have hX := f2 h2
      have n2 : (K == 2) = true := beq_iff_eq.2 h2
      clear f0 f1 f2 f3 h1
      by_cases e0 : ts = 0
      · rw [decide_eq_true e0] at hX hT hT2
        by_cases e2 : n = 0
        · have k2 : ((n : Int) == 0) = true := beq_iff_eq.2 (by omega)
          rw [decide_eq_true e2] at hX
          cases ls with
          | true =>
            replace hX : X = false := by rw [hX]; rfl
            have HX := Lib.hid hX
            clear hX e0 e2 h2
            go_enter Tryz.func86, Tryz.ntmps86
            go_wp2_with (go_at_call 83; refine (HN.out _).mono ?_; rintro e w1 ⟨rfl, rfl⟩)
            go_ret
            exact ⟨by rw [HX.out]; rfl, HB.out⟩
          | false =>
            by_cases e3 : 0 ≤ N
            · have k3 : decide ((0 : Int) ≤ N) = true := decide_eq_true e3
              rw [k3] at hX
              by_cases e4 : N ≤ 999999999999
              · have k4 : decide (N ≤ 999999999999) = true := decide_eq_true e4
                rw [k4] at hX
                replace hX : X = true := by rw [hX]; rfl
                have HX := Lib.hid hX
                clear hX e0 e2 e3 e4 h2
                go_enter Tryz.func86, Tryz.ntmps86
                go_wp2_with (go_at_call 83; refine (HN.out _).mono ?_; rintro e w1 ⟨rfl, rfl⟩)
                go_ret
                exact ⟨by rw [HX.out]; rfl, HB.out⟩
              · have k4 : decide (N ≤ 999999999999) = false := decide_eq_false e4
                rw [k4] at hX
                by_cases e5 : N ≤ 1099511627776
                · have k5 : decide (N ≤ 1099511627776) = true := decide_eq_true e5
                  rw [k5] at hX
                  have hm : N.tmod 1024 = N % 1024 := Int.tmod_eq_emod_of_nonneg e3
                  by_cases e6 : N % 1024 = 0
                  · have k6 : (N.tmod 1024 == 0) = true := by rw [hm]; exact beq_iff_eq.2 e6
                    rw [decide_eq_true e6] at hX
                    replace hX : X = true := by rw [hX]; rfl
                    have HX := Lib.hid hX
                    clear hX e0 e2 e3 e4 e5 e6 h2 hm
                    go_enter Tryz.func86, Tryz.ntmps86
                    go_wp2_with (go_at_call 83; refine (HN.out _).mono ?_; rintro e w1 ⟨rfl, rfl⟩)
                    go_ret
                    exact ⟨by rw [HX.out]; rfl, HB.out⟩
                  · have k6 : (N.tmod 1024 == 0) = false := by rw [hm]; exact beq_eq_false_iff_ne.2 e6
                    rw [decide_eq_false e6] at hX
                    replace hX : X = false := by rw [hX]; rfl
                    have HX := Lib.hid hX
                    clear hX e0 e2 e3 e4 e5 e6 h2 hm
                    go_enter Tryz.func86, Tryz.ntmps86
                    go_wp2_with (go_at_call 83; refine (HN.out _).mono ?_; rintro e w1 ⟨rfl, rfl⟩)
                    go_ret
                    exact ⟨by rw [HX.out]; rfl, HB.out⟩
                · have k5 : decide (N ≤ 1099511627776) = false := decide_eq_false e5
                  rw [k5] at hX
                  replace hX : X = false := by rw [hX]; rfl
                  have HX := Lib.hid hX
                  clear hX e0 e2 e3 e4 e5 h2
                  go_enter Tryz.func86, Tryz.ntmps86
                  go_wp2_with (go_at_call 83; refine (HN.out _).mono ?_; rintro e w1 ⟨rfl, rfl⟩)
                  go_ret
                  exact ⟨by rw [HX.out]; rfl, HB.out⟩
            · have k3 : decide ((0 : Int) ≤ N) = false := decide_eq_false e3
              rw [k3] at hX
              replace hX : X = false := by rw [hX]; rfl
              have HX := Lib.hid hX
              clear hX e0 e2 e3 h2
              go_enter Tryz.func86, Tryz.ntmps86
              go_wp2_with (go_at_call 83; refine (HN.out _).mono ?_; rintro e w1 ⟨rfl, rfl⟩)
              go_ret
              exact ⟨by rw [HX.out]; rfl, HB.out⟩
        · have k2 : ((n : Int) == 0) = false := beq_eq_false_iff_ne.2 (by omega)
          rw [decide_eq_false e2] at hX
          replace hX : X = false := by rw [hX]; rfl
          have HX := Lib.hid hX
          clear hX e0 e2 h2
          go_enter Tryz.func86, Tryz.ntmps86
          go_wp2_with (go_at_call 83; refine (HN.out _).mono ?_; rintro e w1 ⟨rfl, rfl⟩)
          go_ret
          exact ⟨by rw [HX.out]; rfl, HB.out⟩
      · rw [decide_eq_false e0] at hX hT hT2
        replace hX : X = false := by rw [hX]; rfl
        have HX := Lib.hid hX
        clear hX e0 h2
        go_enter Tryz.func86, Tryz.ntmps86
        go_wp2_with (go_at_call 83; refine (HN.out _).mono ?_; rintro e w1 ⟨rfl, rfl⟩)
        go_ret
        exact ⟨by rw [HX.out]; rfl, HB.out⟩
    · have n2 : (K == 2) = false := beq_eq_false_iff_ne.2 h2
      by_cases h3 : K = 3
      · have hX := f3 h3
        have n3 : (K == 3) = true := beq_iff_eq.2 h3
        clear f0 f1 f2 f3 h1 h2
        by_cases e0 : ts = 0
        · rw [decide_eq_true e0] at hX hT hT2
          by_cases e1 : N = 0
          · have k1 : (N == 0) = true := beq_iff_eq.2 e1
            rw [decide_eq_true e1] at hX
            by_cases e2 : 0 < n
            · have k2 : decide ((0 : Int) < (n : Int)) = true := decide_eq_true (by omega)
              have k2b : decide (0 < n) = true := decide_eq_true e2
              rw [decide_eq_true e2] at hX
              cases ls with
              | true =>
                replace hX : X = true := by rw [hX]; rfl
                have HX := Lib.hid hX
                clear hX e0 e1 h3
                go_enter Tryz.func86, Tryz.ntmps86
                go_wp2_with (go_at_call 83; refine (HN.out _).mono ?_; rintro e w1 ⟨rfl, rfl⟩)
                go_ret
                exact ⟨by rw [HX.out]; rfl, HB.out⟩
              | false =>
                by_cases e3 : n = 1
                · have k3 : ((n : Int) == 1) = true := beq_iff_eq.2 (by omega)
                  rw [decide_eq_true e3] at hX
                  replace hX : X = true := by rw [hX]; rfl
                  have HX := Lib.hid hX
                  clear hX e0 e1 e3 h3
                  go_enter Tryz.func86, Tryz.ntmps86
                  go_wp2_with (go_at_call 83; refine (HN.out _).mono ?_; rintro e w1 ⟨rfl, rfl⟩)
                  go_ret
                  exact ⟨by rw [HX.out]; rfl, HB.out⟩
                · have k3 : ((n : Int) == 1) = false := beq_eq_false_iff_ne.2 (by omega)
                  rw [decide_eq_false e3] at hX
                  replace hX : X = false := by rw [hX]; rfl
                  have HX := Lib.hid hX
                  clear hX e0 e1 e3 h3
                  go_enter Tryz.func86, Tryz.ntmps86
                  go_wp2_with (go_at_call 83; refine (HN.out _).mono ?_; rintro e w1 ⟨rfl, rfl⟩)
                  go_ret
                  exact ⟨by rw [HX.out]; rfl, HB.out⟩
            · have k2 : decide ((0 : Int) < (n : Int)) = false := decide_eq_false (by omega)
              have k2b : decide (0 < n) = false := decide_eq_false e2
              rw [decide_eq_false e2] at hX
              replace hX : X = false := by rw [hX]; rfl
              have HX := Lib.hid hX
              clear hX e0 e1 h3
              go_enter Tryz.func86, Tryz.ntmps86
              go_wp2_with (go_at_call 83; refine (HN.out _).mono ?_; rintro e w1 ⟨rfl, rfl⟩)
              go_ret
              exact ⟨by rw [HX.out]; rfl, HB.out⟩
          · have k1 : (N == 0) = false := beq_eq_false_iff_ne.2 e1
            rw [decide_eq_false e1] at hX
            replace hX : X = false := by rw [hX]; rfl
            have HX := Lib.hid hX
            clear hX e0 e1 h3
            go_enter Tryz.func86, Tryz.ntmps86
            go_wp2_with (go_at_call 83; refine (HN.out _).mono ?_; rintro e w1 ⟨rfl, rfl⟩)
            go_ret
            exact ⟨by rw [HX.out]; rfl, HB.out⟩
        · rw [decide_eq_false e0] at hX hT hT2
          replace hX : X = false := by rw [hX]; rfl
          have HX := Lib.hid hX
          clear hX e0 h3
          go_enter Tryz.func86, Tryz.ntmps86
          go_wp2_with (go_at_call 83; refine (HN.out _).mono ?_; rintro e w1 ⟨rfl, rfl⟩)
          go_ret
          exact ⟨by rw [HX.out]; rfl, HB.out⟩
      · have n3 : (K == 3) = false := beq_eq_false_iff_ne.2 h3
        have hX := f0 h1 h2 h3
        clear f0 f1 f2 f3
        have HX := Lib.hid hX
        clear hX h1 h2 h3 hT hT2
        go_enter Tryz.func86, Tryz.ntmps86
        go_wp2_with (go_at_call 83; refine (HN.out _).mono ?_; rintro e w1 ⟨rfl, rfl⟩)
        go_ret
        exact ⟨by rw [HX.out]; rfl, HB.out⟩
end Go.Proofs.YtgimgkjggaijoaaGreatDoor
namespace Go.Proofs.YtgimgkjggaijoaaGreatDoor
open Go.RowKit Pk Lx Sv

def AnyAt (bs : List Bool) (i : Nat) (X : Bool) : Prop := (bs.drop i).any id = X
theorem anyAt_step {bs : List Bool} {i : Nat} {X : Bool} (h : AnyAt bs i X) (hi : i < bs.length) : (bs[i] = true → X = true) ∧ (bs[i] = false → AnyAt bs (i + 1) X) := by
  unfold AnyAt at *
  rw [List.drop_eq_getElem_cons hi, List.any_cons] at h
  refine ⟨fun h1 => ?_, fun h1 => ?_⟩
  · rw [h1] at h; exact h.symm
  · rw [h1] at h; exact h
theorem anyAt_end {bs : List Bool} {i : Nat} {X : Bool} (h : AnyAt bs i X) (hi : ¬ i < bs.length) : X = false := by
  unfold AnyAt at h
  rw [List.drop_eq_nil_of_le (by omega)] at h
  exact h.symm
set_option maxHeartbeats 4000000 in
set_option maxRecDepth 100000 in
theorem idxA (X : Nat → Prop) (v : Value) (R : List RArg) (bs : List Bool) (bx : Nat) (w : World) (hR : ReadsR argL w X v R) (hl : bs.length = R.length) (hb : R.length ≤ 100000000)
    (hP : ∀ i (h1 : i < R.length) (h2 : i < bs.length) W, Below w.heap.size w W → Calls Tryz.prog 85 #[.agg (argL.enc R[i]).toArray] W (BlRet bs[i] W)) :
    Calls Tryz.prog 122 #[v, .func (.func 85) #[] #[]] w fun e w' => Below w.heap.size w w' ∧ ∃ n : Int, e = .returned (.int .i64 n) ∧ -1 ≤ n ∧ decide (0 ≤ n) = bs.any id := by
  have hst : Hid (AnyAt bs 0 (bs.any id)) := rfl
  generalize bs.any id = Z at *
  obtain ⟨pa, ca, rfl, hca, hA⟩ := rdCell hR
  have HA := Lib.hid hA
  have HL := Lib.hid hl
  have HP := Lib.hid hP
  clear hA hR hl hP
  go_enter Tryz.func122, Tryz.ntmps122
  go_wp2
  go_loopw [5, 8] (fun _ iv wr => ∃ (i : Nat), iv = .int .i64 i ∧ Below w.heap.size w wr ∧ i ≤ R.length ∧ Hid (AnyAt bs i Z)) (fun _ iv _ => R.length - (intOf iv).toNat)
  case atStart => exact ⟨0, by first | rfl | trivial, Below.refl _ _, by omega, hst⟩
  case round =>
    obtain ⟨i, rfl, hbel, hi, hrel⟩ := hrel
    clear hst
    by_cases hlt : i < R.length
    · rcases HA.out with h0 | ⟨ga, oa, rfl, hca2⟩
      · rw [h0, List.length_nil] at hlt; omega
      · have ib : i < bs.length := by have := HL.out; omega
        have hc := HP.out i hlt ib wr hbel
        have a1 : ∀ j u, (argL.enc R[i])[j]? = some u → wr.cell? ⟨ga, oa + i * 5 + j, none⟩ = some u := fun j u hu => cell_later hbel (hca2 i hlt j u hu)
        obtain ⟨s1, s2⟩ := anyAt_step hrel.out ib
        generalize R[i] = r at *
        generalize bs[i] = b at *
        obtain ⟨rk, rt, rn, ⟨rp, rm, rc⟩, rs⟩ := r
        have c0 := a1 0 _ rfl; have c1 := a1 1 _ rfl; have c2 := a1 2 _ rfl; have c3 := a1 3 _ rfl; have c4 := a1 4 _ rfl; simp only [Nat.add_zero] at c0; dsimp only [argL, SlV.val] at hc c3
        have HC := Lib.hid hc
        clear a1 hca2 hc hrel
        cases b with
        | true =>
          obtain rfl := s1 rfl
          clear s1 s2
          go_wp2_with fail
          refine HC.out.mono ?_
          rintro e w1 ⟨rfl, hb1⟩
          go_wp2
          go_ret
          exact ⟨hbel.trans (hb1.mono hbel.size), i, rfl, by omega, decide_eq_true (by omega)⟩
        | false =>
          have hn := Lib.hid (s2 rfl)
          clear s1 s2
          go_wp2_with fail
          refine HC.out.mono ?_
          rintro e w1 ⟨rfl, hb1⟩
          go_wp2
          go_roundw
          case rel => exact ⟨i + 1, by go_num, hbel.trans (hb1.mono hbel.size), by omega, hn⟩
          case measure => simp [intOf]; omega
    · have hz := anyAt_end hrel.out (by have := HL.out; omega)
      clear hrel
      go_wp2
      go_ret
      exact ⟨hbel, -1, rfl, by omega, by rw [hz]; rfl⟩
theorem conA (X : Nat → Prop) (v : Value) (R : List RArg) (bs : List Bool) (bx : Nat) (w : World) (hR : ReadsR argL w X v R) (hl : bs.length = R.length) (hb : R.length ≤ 100000000)
    (hP : ∀ i (h1 : i < R.length) (h2 : i < bs.length) W, Below w.heap.size w W → Calls Tryz.prog 85 #[.agg (argL.enc R[i]).toArray] W (BlRet bs[i] W)) :
    Calls Tryz.prog 84 #[v, .func (.func 85) #[] #[]] w (BlRet (bs.any id) w) := by
  have HI := Lib.hid (idxA X v R bs bx w hR hl hb hP)
  generalize bs.any id = Z at *
  clear hR hl hb hP
  go_enter Tryz.func84, Tryz.ntmps84
  go_wp2_with fail
  refine HI.out.mono ?_
  rintro e w1 ⟨hb1, n, rfl, hn, hz⟩
  go_wp2
  go_ret
  exact ⟨by rw [← hz]; rfl, hb1⟩
set_option maxHeartbeats 4000000 in
set_option maxRecDepth 100000 in
theorem idxT (X : Nat → Prop) (v : Value) (R : List RTest) (bs : List Bool) (bx : Nat) (w : World) (hR : ReadsR testL w X v R) (hl : bs.length = R.length) (hb : R.length ≤ 100000000)
    (hP : ∀ i (h1 : i < R.length) (h2 : i < bs.length) W, Below w.heap.size w W → Calls Tryz.prog 88 #[.agg (testL.enc R[i]).toArray, .pointer (some ⟨bx, 0, none⟩)] W (BlRet bs[i] W)) :
    Calls Tryz.prog 123 #[v, .func (.func 88) #[] #[.pointer (some ⟨bx, 0, none⟩)]] w fun e w' => Below w.heap.size w w' ∧ ∃ n : Int, e = .returned (.int .i64 n) ∧ -1 ≤ n ∧ decide (0 ≤ n) = bs.any id := by
  have hst : Hid (AnyAt bs 0 (bs.any id)) := rfl
  generalize bs.any id = Z at *
  obtain ⟨pa, ca, rfl, hca, hA⟩ := rdCell hR
  have HA := Lib.hid hA
  have HL := Lib.hid hl
  have HP := Lib.hid hP
  clear hA hR hl hP
  go_enter Tryz.func123, Tryz.ntmps123
  go_wp2
  go_loopw [5, 8] (fun _ iv wr => ∃ (i : Nat), iv = .int .i64 i ∧ Below w.heap.size w wr ∧ i ≤ R.length ∧ Hid (AnyAt bs i Z)) (fun _ iv _ => R.length - (intOf iv).toNat)
  case atStart => exact ⟨0, by first | rfl | trivial, Below.refl _ _, by omega, hst⟩
  case round =>
    obtain ⟨i, rfl, hbel, hi, hrel⟩ := hrel
    clear hst
    by_cases hlt : i < R.length
    · rcases HA.out with h0 | ⟨ga, oa, rfl, hca2⟩
      · rw [h0, List.length_nil] at hlt; omega
      · have ib : i < bs.length := by have := HL.out; omega
        have hc := HP.out i hlt ib wr hbel
        have a1 : ∀ j u, (testL.enc R[i])[j]? = some u → wr.cell? ⟨ga, oa + i * 4 + j, none⟩ = some u := fun j u hu => cell_later hbel (hca2 i hlt j u hu)
        obtain ⟨s1, s2⟩ := anyAt_step hrel.out ib
        generalize R[i] = r at *
        generalize bs[i] = b at *
        obtain ⟨rn, ⟨ap, an, ac⟩, ⟨kp, kn, kc⟩, ra⟩ := r
        have c0 := a1 0 _ rfl; have c1 := a1 1 _ rfl; have c2 := a1 2 _ rfl; have c3 := a1 3 _ rfl; simp only [Nat.add_zero] at c0; dsimp only [testL, SlV.val] at hc c1 c2
        have HC := Lib.hid hc
        clear a1 hca2 hc hrel
        cases b with
        | true =>
          obtain rfl := s1 rfl
          clear s1 s2
          go_wp2_with fail
          refine HC.out.mono ?_
          rintro e w1 ⟨rfl, hb1⟩
          go_wp2
          go_ret
          exact ⟨hbel.trans (hb1.mono hbel.size), i, rfl, by omega, decide_eq_true (by omega)⟩
        | false =>
          have hn := Lib.hid (s2 rfl)
          clear s1 s2
          go_wp2_with fail
          refine HC.out.mono ?_
          rintro e w1 ⟨rfl, hb1⟩
          go_wp2
          go_roundw
          case rel => exact ⟨i + 1, by go_num, hbel.trans (hb1.mono hbel.size), by omega, hn⟩
          case measure => simp [intOf]; omega
    · have hz := anyAt_end hrel.out (by have := HL.out; omega)
      clear hrel
      go_wp2
      go_ret
      exact ⟨hbel, -1, rfl, by omega, by rw [hz]; rfl⟩
theorem conT (X : Nat → Prop) (v : Value) (R : List RTest) (bs : List Bool) (bx : Nat) (w : World) (hR : ReadsR testL w X v R) (hl : bs.length = R.length) (hb : R.length ≤ 100000000)
    (hP : ∀ i (h1 : i < R.length) (h2 : i < bs.length) W, Below w.heap.size w W → Calls Tryz.prog 88 #[.agg (testL.enc R[i]).toArray, .pointer (some ⟨bx, 0, none⟩)] W (BlRet bs[i] W)) :
    Calls Tryz.prog 87 #[v, .func (.func 88) #[] #[.pointer (some ⟨bx, 0, none⟩)]] w (BlRet (bs.any id) w) := by
  have HI := Lib.hid (idxT X v R bs bx w hR hl hb hP)
  generalize bs.any id = Z at *
  clear hR hl hb hP
  go_enter Tryz.func87, Tryz.ntmps87
  go_wp2_with fail
  refine HI.out.mono ?_
  rintro e w1 ⟨hb1, n, rfl, hn, hz⟩
  go_wp2
  go_ret
  exact ⟨by rw [← hz]; rfl, hb1⟩
set_option maxHeartbeats 4000000 in
set_option maxRecDepth 100000 in
theorem idxC (X : Nat → Prop) (v : Value) (R : List RCmd) (bs : List Bool) (bx : Nat) (w : World) (hR : ReadsR cmdL w X v R) (hl : bs.length = R.length) (hb : R.length ≤ 100000000)
    (hP : ∀ i (h1 : i < R.length) (h2 : i < bs.length) W, Below w.heap.size w W → Calls Tryz.prog 47 #[.agg (cmdL.enc R[i]).toArray, .pointer (some ⟨bx, 0, none⟩)] W (BlRet bs[i] W)) :
    Calls Tryz.prog 82 #[v, .func (.func 47) #[] #[.pointer (some ⟨bx, 0, none⟩)]] w fun e w' => Below w.heap.size w w' ∧ ∃ n : Int, e = .returned (.int .i64 n) ∧ -1 ≤ n ∧ decide (0 ≤ n) = bs.any id := by
  have hst : Hid (AnyAt bs 0 (bs.any id)) := rfl
  generalize bs.any id = Z at *
  obtain ⟨pa, ca, rfl, hca, hA⟩ := rdCell hR
  have HA := Lib.hid hA
  have HL := Lib.hid hl
  have HP := Lib.hid hP
  clear hA hR hl hP
  go_enter Tryz.func82, Tryz.ntmps82
  go_wp2
  go_loopw [5, 8] (fun _ iv wr => ∃ (i : Nat), iv = .int .i64 i ∧ Below w.heap.size w wr ∧ i ≤ R.length ∧ Hid (AnyAt bs i Z)) (fun _ iv _ => R.length - (intOf iv).toNat)
  case atStart => exact ⟨0, by first | rfl | trivial, Below.refl _ _, by omega, hst⟩
  case round =>
    obtain ⟨i, rfl, hbel, hi, hrel⟩ := hrel
    clear hst
    by_cases hlt : i < R.length
    · rcases HA.out with h0 | ⟨ga, oa, rfl, hca2⟩
      · rw [h0, List.length_nil] at hlt; omega
      · have ib : i < bs.length := by have := HL.out; omega
        have hc := HP.out i hlt ib wr hbel
        have a1 : ∀ j u, (cmdL.enc R[i])[j]? = some u → wr.cell? ⟨ga, oa + i * 6 + j, none⟩ = some u := fun j u hu => cell_later hbel (hca2 i hlt j u hu)
        obtain ⟨s1, s2⟩ := anyAt_step hrel.out ib
        generalize R[i] = r at *
        generalize bs[i] = b at *
        obtain ⟨rn, ⟨ap, an, ac⟩, ⟨tp, tn, tc⟩, ⟨kp, kn, kc⟩, rb, ra⟩ := r
        have c0 := a1 0 _ rfl; have c1 := a1 1 _ rfl; have c2 := a1 2 _ rfl; have c3 := a1 3 _ rfl; have c4 := a1 4 _ rfl; have c5 := a1 5 _ rfl; simp only [Nat.add_zero] at c0; dsimp only [cmdL, SlV.val] at hc c1 c2 c3
        have HC := Lib.hid hc
        clear a1 hca2 hc hrel
        cases b with
        | true =>
          obtain rfl := s1 rfl
          clear s1 s2
          go_wp2_with fail
          refine HC.out.mono ?_
          rintro e w1 ⟨rfl, hb1⟩
          go_wp2
          go_ret
          exact ⟨hbel.trans (hb1.mono hbel.size), i, rfl, by omega, decide_eq_true (by omega)⟩
        | false =>
          have hn := Lib.hid (s2 rfl)
          clear s1 s2
          go_wp2_with fail
          refine HC.out.mono ?_
          rintro e w1 ⟨rfl, hb1⟩
          go_wp2
          go_roundw
          case rel => exact ⟨i + 1, by go_num, hbel.trans (hb1.mono hbel.size), by omega, hn⟩
          case measure => simp [intOf]; omega
    · have hz := anyAt_end hrel.out (by have := HL.out; omega)
      clear hrel
      go_wp2
      go_ret
      exact ⟨hbel, -1, rfl, by omega, by rw [hz]; rfl⟩
theorem conC (X : Nat → Prop) (v : Value) (R : List RCmd) (bs : List Bool) (bx : Nat) (w : World) (hR : ReadsR cmdL w X v R) (hl : bs.length = R.length) (hb : R.length ≤ 100000000)
    (hP : ∀ i (h1 : i < R.length) (h2 : i < bs.length) W, Below w.heap.size w W → Calls Tryz.prog 47 #[.agg (cmdL.enc R[i]).toArray, .pointer (some ⟨bx, 0, none⟩)] W (BlRet bs[i] W)) :
    Calls Tryz.prog 46 #[v, .func (.func 47) #[] #[.pointer (some ⟨bx, 0, none⟩)]] w (BlRet (bs.any id) w) := by
  have HI := Lib.hid (idxC X v R bs bx w hR hl hb hP)
  generalize bs.any id = Z at *
  clear hR hl hb hP
  go_enter Tryz.func46, Tryz.ntmps46
  go_wp2_with fail
  refine HI.out.mono ?_
  rintro e w1 ⟨hb1, n, rfl, hn, hz⟩
  go_wp2
  go_ret
  exact ⟨by rw [← hz]; rfl, hb1⟩
end Go.Proofs.YtgimgkjggaijoaaGreatDoor
namespace Go.Proofs.YtgimgkjggaijoaaGreatDoor
open Go.RowKit Pk Lx Sv

theorem rightsT_all (d : Nat) : ∀ (ts : List TestT), rightsT d ts = ts.all (rightT d)
  | [] => rfl
  | t :: r => by show (rightT d t && rightsT d r) = _; rw [List.all_cons, rightsT_all d r]
theorem rightT_may (d : Nat) (t : TestT) : rightT d t = mayB d (tName t) (tArgs t) (tKids t) := by cases t; rfl
theorem any_not {α : Type} (f : α → Bool) : ∀ (l : List α), (l.map fun a => !f a).any id = !(l.all f)
  | [] => rfl
  | a :: r => by
    rw [List.map_cons, List.any_cons, List.all_cons, any_not f r]
    cases f a <;> rfl
theorem reads_len {W : World} {X : Nat → Prop} {p : Option Addr} {n c : Nat} {l : List ByteArray} (h : ReadsR strL W X (.slice p n c) l) : n = l.length := by
  obtain ⟨p', c', h1, -, -⟩ := h
  injection h1
set_option maxRecDepth 100000 in
theorem may1_any (W : World) (X : Nat → Prop) (r : RArg) (a : ArgT) (h : ArgAt W X r a) (hs : a.tag.size ≤ 100000000) : Calls Tryz.prog 85 #[.agg (argL.enc r).toArray] W (BlRet (!fitsB a) W) := by
  obtain ⟨e1, e2, e3, e4, e5⟩ := h
  obtain ⟨rk, rt, rn, ⟨p, n, c⟩, rs⟩ := r
  have e1 : rk = a.k := e1
  have e2 : rt = a.tag := e2
  have e3 : rn = a.n := e3
  have e4 : rs = a.list := e4
  subst e1 e2 e3 e4
  have hb := (Below.refl W.heap.size W).alloc (Nat.le_refl _) (.cells #[.int .i64 a.k, .string a.tag, .int .i64 a.n, .slice p n c, .bool a.list] 50)
  have HF := Lib.hid (fits_any p n c a (W.alloc (.cells #[.int .i64 a.k, .string a.tag, .int .i64 a.n, .slice p n c, .bool a.list] 50)) (reads_len e5) hs)
  have HB := Lib.hid hb
  generalize fitsB a = Z at *
  clear e5 hb hs
  dsimp only [argL, SlV.val]
  go_enter Tryz.func85, Tryz.ntmps85
  go_wp2_with fail
  refine HF.out.mono ?_
  rintro e w1 ⟨rfl, hb1⟩
  go_wp2
  go_ret
  exact ⟨rfl, HB.out.trans (hb1.mono HB.out.size)⟩
/-- a box with an integer -/
def IBox (w : World) (b : Nat) (n : Int) : Prop := w.heap[b]? = some (.cells #[.int .i64 n] 3)
theorem IBox.cell {w : World} {b : Nat} {n : Int} (h : IBox w b n) : w.cell? ⟨b, 0, none⟩ = some (.int .i64 n) := by unfold IBox at h; exact cell1 h
theorem IBox.below {w w' : World} {b : Nat} {n : Int} (h : IBox w b n) (hb : Below w.heap.size w w') : IBox w' b n := (hb.block b (lt_of_block h)).trans h
def MayC (m : Nat) : Prop := ∀ (X : Nat → Prop) (n : ByteArray) (va vt : Value) (ag : List ArgT) (ts : List TestT) (d : Nat) (w : World), ArgsAt w X va ag → TestsAt w X vt ts → n.size ≤ 100000000 → wAs ag ≤ 100000000 → wTs ts ≤ 100000000 → wTs ts < m → d ≤ 9 → Calls Tryz.prog 48 #[.string n, va, vt, .int .i64 d] w (BlRet (mayB d n ag ts) w)
set_option maxRecDepth 100000 in
theorem may2_any (m : Nat) (hM : MayC m) (W : World) (X : Nat → Prop) (r : RTest) (t : TestT) (bx d : Nat) (h : TestAt W X r t) (hx : IBox W bx d) (hw : wT t ≤ 100000000) (hm : wTs (tKids t) < m) (hd : d + 1 ≤ 9) : Calls Tryz.prog 88 #[.agg (testL.enc r).toArray, .pointer (some ⟨bx, 0, none⟩)] W (BlRet (!rightT (d + 1) t) W) := by
  obtain ⟨e1, e2, e3, e4⟩ := h
  rw [rightT_may]
  rw [wT_parts] at hw
  obtain ⟨rn, ⟨p, n, c⟩, ⟨p', n', c'⟩, ra⟩ := r
  have e1 : rn = tName t := e1
  subst e1
  have hb := (Below.refl W.heap.size W).alloc (Nat.le_refl _) (.cells #[.string (tName t), .slice p n c, .slice p' n' c', .int .i64 ra] 48)
  have hC := hM X (tName t) (.slice p n c) (.slice p' n' c') (tArgs t) (tKids t) (d + 1) (W.alloc (.cells #[.string (tName t), .slice p n c, .slice p' n' c', .int .i64 ra] 48)) (e3.keeps (fun g _ hg => hb.block g hg) hb.size fun _ h => h) (e4.keeps (fun g _ hg => hb.block g hg) hb.size fun _ h => h) (by omega) (by omega) (by omega) hm hd
  have kx := (hx.below hb).cell
  push_cast at hC
  have HC := Lib.hid hC
  have HB := Lib.hid hb
  generalize mayB (d + 1) (tName t) (tArgs t) (tKids t) = Z at *
  generalize tName t = nm at *
  clear e2 e3 e4 hb hC hw hm hx
  dsimp only [testL, SlV.val]
  go_enter Tryz.func88, Tryz.ntmps88
  go_wp2_with fail
  refine HC.out.mono ?_
  rintro e w1 ⟨rfl, hb1⟩
  go_wp2
  go_ret
  exact ⟨rfl, HB.out.trans (hb1.mono HB.out.size)⟩
set_option maxHeartbeats 4000000 in
set_option maxRecDepth 100000 in
theorem may_any : ∀ m, MayC m
  | 0 => fun X n va vt ag ts d w hA hT hn ha ht hm hd => absurd hm (Nat.not_lt_zero _)
  | m + 1 => fun X n va vt ag ts d w hA hT hn ha ht hm hd => by
    have ih := may_any m
    obtain ⟨R, hR, rl, re⟩ := hA
    obtain ⟨S, hS, sl, se⟩ := hT.out
    have hb := (Below.refl w.heap.size w).alloc (Nat.le_refl _) (.cells #[.int .i64 d] 3)
    have hbx : IBox (w.alloc (.cells #[.int .i64 d] 3)) w.heap.size d := heap_alloc_new w _
    have hCA : ∀ W, Below (w.alloc (.cells #[.int .i64 d] 3)).heap.size (w.alloc (.cells #[.int .i64 d] 3)) W → Calls Tryz.prog 84 #[va, .func (.func 85) #[] #[]] W (BlRet (!ag.all fitsB) W) := fun W hW => by
      have hk : ∀ g, X g → g < w.heap.size → W.heap[g]? = w.heap[g]? := fun g _ hg => (hW.block g (Nat.lt_of_lt_of_le hg hb.size)).trans (hb.block g hg)
      have hz : w.heap.size ≤ W.heap.size := Nat.le_trans hb.size hW.size
      rw [← any_not]
      refine conA X va R _ 0 W (hR.keeps hk hz fun _ h => h) (by rw [List.length_map, rl]) (by rw [rl]; have := wAs_len ag; omega) fun i h1 h2 W2 hW2 => ?_
      rw [List.getElem_map]
      rw [List.length_map] at h2
      have hat := (re i h1 h2).keeps (w' := W2) (Y := X) (fun g hX hg => (hW2.block g (Nat.lt_of_lt_of_le hg hz)).trans (hk g hX hg)) (Nat.le_trans hz hW2.size) fun _ h => h
      have := wAs_mem (List.getElem_mem h2)
      unfold wA at this
      exact may1_any W2 X _ _ hat (by omega)
    have hCT : d ≤ 8 → ∀ W, Below (w.alloc (.cells #[.int .i64 d] 3)).heap.size (w.alloc (.cells #[.int .i64 d] 3)) W → Calls Tryz.prog 87 #[vt, .func (.func 88) #[] #[.pointer (some ⟨w.heap.size, 0, none⟩)]] W (BlRet (!rightsT (d + 1) ts) W) := fun hd8 W hW => by
      have hk : ∀ g, X g → g < w.heap.size → W.heap[g]? = w.heap[g]? := fun g _ hg => (hW.block g (Nat.lt_of_lt_of_le hg hb.size)).trans (hb.block g hg)
      have hz : w.heap.size ≤ W.heap.size := Nat.le_trans hb.size hW.size
      rw [rightsT_all, ← any_not]
      refine conT X vt S _ w.heap.size W (hS.keeps hk hz fun _ h => h) (by rw [List.length_map, sl]) (by rw [sl]; have := wTs_len ts; omega) fun i h1 h2 W2 hW2 => ?_
      rw [List.getElem_map]
      rw [List.length_map] at h2
      have hat := (se i h1 h2).keeps (w' := W2) (Y := X) (fun g hX hg => (hW2.block g (Nat.lt_of_lt_of_le hg hz)).trans (hk g hX hg)) (Nat.le_trans hz hW2.size) fun _ h => h
      have h3 := wTs_at i h2
      have h4 := kid_lt i h2
      exact may2_any m ih W2 X _ _ w.heap.size d hat ((hbx.below hW).below hW2) (by omega) (by omega) (by omega)
    have hN := fun W => named_any n W hn
    have kx := hbx.cell
    have HA := Lib.hid hCA
    have HT := Lib.hid hCT
    have HN := Lib.hid hN
    have HB := Lib.hid hb
    have hX : mayB d n ag ts = (decide (d ≤ 8) && (nameB n.data.toList && (ag.all fitsB && rightsT (d + 1) ts))) := rfl
    generalize mayB d n ag ts = Z at *
    generalize nameB n.data.toList = b1 at *
    generalize ag.all fitsB = b2 at *
    generalize rightsT (d + 1) ts = b3 at *
    clear hCA hCT hN hb hbx re se rl sl hR hS hT hm ha ht hn ih
    by_cases h8 : d ≤ 8
    · have k8 : decide ((d : Int) ≤ 8) = true := decide_eq_true (by omega)
      rw [decide_eq_true h8] at hX
      cases b1 with
      | false =>
        replace hX : Z = false := by rw [hX]; rfl
        subst hX
        go_enter Tryz.func48, Tryz.ntmps48
        go_wp2_with (go_at_call 83; refine (HN.out _).mono ?_; rintro e w1 ⟨rfl, rfl⟩)
        go_ret
        exact ⟨rfl, HB.out⟩
      | true =>
        cases b2 with
        | false =>
          replace hX : Z = false := by rw [hX]; rfl
          subst hX
          go_enter Tryz.func48, Tryz.ntmps48
          go_wp2_with (first | (go_at_call 83; refine (HN.out _).mono ?_; rintro e w1 ⟨rfl, rfl⟩) | (go_at_call 84; refine (HA.out _ (Below.refl _ _)).mono ?_; rintro e w2 ⟨rfl, hb2⟩))
          go_ret
          exact ⟨rfl, HB.out.trans (hb2.mono HB.out.size)⟩
        | true =>
          replace hX : Z = b3 := by rw [hX]; simp
          subst hX
          go_enter Tryz.func48, Tryz.ntmps48
          go_wp2_with (first | (go_at_call 83; refine (HN.out _).mono ?_; rintro e w1 ⟨rfl, rfl⟩) | (go_at_call 84; refine (HA.out _ (Below.refl _ _)).mono ?_; rintro e w2 ⟨rfl, hb2⟩) | (go_at_call 87; refine (HT.out h8 _ hb2).mono ?_; rintro e w3 ⟨rfl, hb3⟩))
          go_ret
          exact ⟨by simp, HB.out.trans ((hb2.trans (hb3.mono hb2.size)).mono HB.out.size)⟩
    · have k8 : decide ((d : Int) ≤ 8) = false := decide_eq_false (by omega)
      rw [decide_eq_false h8] at hX
      replace hX : Z = false := by rw [hX]; rfl
      subst hX
      go_enter Tryz.func48, Tryz.ntmps48
      go_wp2_with fail
      go_ret
      exact ⟨rfl, HB.out⟩
end Go.Proofs.YtgimgkjggaijoaaGreatDoor
