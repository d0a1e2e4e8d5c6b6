/- Walks: the reference of addresses: atom, Dotted, Right. Walks: the reference of addresses: Dotted, Right. Walks: the reference of addresses: Right. Walks: the reference of addresses: Canon, Write. Walks: the reference of addresses: Write. -/
import Derived.Test.YtilccofdphohiaaGreatDoorLawBack
import Derived.Test.YtilccofdphohiaaGreatDoorR10W
import Derived.Test.YtilccofdphohiaaGreatDoorAdW6
import Derived.Test.YtilccofdphohiaaGreatDoorAd7
namespace Go.Proofs.YtilccofdphohiaaGreatDoor
open Go.RowKit Pk Ad Tk Fo Su U8

theorem spec_cases {c : UInt8} (h : spec c = true) : c = 40 ∨ c = 41 ∨ c = 60 ∨ c = 62 ∨ c = 91 ∨ c = 93 ∨ c = 58 ∨ c = 59 ∨ c = 64 ∨ c = 92 ∨ c = 44 ∨ c = 46 ∨ c = 34 := by
  have h0 : ∀ n : Nat, n < 256 → spec (UInt8.ofNat n) = true → UInt8.ofNat n = 40 ∨ UInt8.ofNat n = 41 ∨ UInt8.ofNat n = 60 ∨ UInt8.ofNat n = 62 ∨ UInt8.ofNat n = 91 ∨ UInt8.ofNat n = 93 ∨ UInt8.ofNat n = 58 ∨ UInt8.ofNat n = 59 ∨ UInt8.ofNat n = 64 ∨ UInt8.ofNat n = 92 ∨ UInt8.ofNat n = 44 ∨ UInt8.ofNat n = 46 ∨ UInt8.ofNat n = 34 := by decide +kernel
  have := h0 c.toNat c.toNat_lt
  rw [UInt8.ofNat_toNat] at this
  exact this h
theorem spec_not {c : UInt8} (h : spec c = false) : ((c.toNat : Int) == 40) = false ∧ ((c.toNat : Int) == 41) = false ∧ ((c.toNat : Int) == 60) = false ∧ ((c.toNat : Int) == 62) = false ∧ ((c.toNat : Int) == 91) = false ∧ ((c.toNat : Int) == 93) = false ∧ ((c.toNat : Int) == 58) = false ∧ ((c.toNat : Int) == 59) = false ∧ ((c.toNat : Int) == 64) = false ∧ ((c.toNat : Int) == 92) = false ∧ ((c.toNat : Int) == 44) = false ∧ ((c.toNat : Int) == 46) = false ∧ ((c.toNat : Int) == 34) = false := by
  have h0 : ∀ n : Nat, n < 256 → spec (UInt8.ofNat n) = false → (((UInt8.ofNat n).toNat : Int) == 40) = false ∧ (((UInt8.ofNat n).toNat : Int) == 41) = false ∧ (((UInt8.ofNat n).toNat : Int) == 60) = false ∧ (((UInt8.ofNat n).toNat : Int) == 62) = false ∧ (((UInt8.ofNat n).toNat : Int) == 91) = false ∧ (((UInt8.ofNat n).toNat : Int) == 93) = false ∧ (((UInt8.ofNat n).toNat : Int) == 58) = false ∧ (((UInt8.ofNat n).toNat : Int) == 59) = false ∧ (((UInt8.ofNat n).toNat : Int) == 64) = false ∧ (((UInt8.ofNat n).toNat : Int) == 92) = false ∧ (((UInt8.ofNat n).toNat : Int) == 44) = false ∧ (((UInt8.ofNat n).toNat : Int) == 46) = false ∧ (((UInt8.ofNat n).toNat : Int) == 34) = false := by decide +kernel
  have := h0 c.toNat c.toNat_lt
  rw [UInt8.ofNat_toNat] at this
  exact this h
set_option maxHeartbeats 4000000 in
set_option maxRecDepth 100000 in
theorem ratomA_any (c : UInt8) (w : World) : Calls Tryz.prog 65 #[.int .u8 c.toNat] w fun e w' => e = .returned (.bool (atm c)) ∧ w = w' := by
  have ha : atm c = (decide (32 < c.toNat) && !(c == 127) && !(spec c)) := rfl
  cases hs : spec c with
  | true =>
    have e : atm c = false := by rw [ha, hs]; simp
    rw [e]
    clear ha e
    rcases spec_cases hs with rfl | rfl | rfl | rfl | rfl | rfl | rfl | rfl | rfl | rfl | rfl | rfl | rfl
    · show Calls Tryz.prog 65 #[.int .u8 40] w _
      clear hs
      go_enter Tryz.func65, Tryz.ntmps65
      go_wp2
      go_ret
      exact ⟨by first | rfl | (simp; done), rfl⟩
    · show Calls Tryz.prog 65 #[.int .u8 41] w _
      clear hs
      go_enter Tryz.func65, Tryz.ntmps65
      go_wp2
      go_ret
      exact ⟨by first | rfl | (simp; done), rfl⟩
    · show Calls Tryz.prog 65 #[.int .u8 60] w _
      clear hs
      go_enter Tryz.func65, Tryz.ntmps65
      go_wp2
      go_ret
      exact ⟨by first | rfl | (simp; done), rfl⟩
    · show Calls Tryz.prog 65 #[.int .u8 62] w _
      clear hs
      go_enter Tryz.func65, Tryz.ntmps65
      go_wp2
      go_ret
      exact ⟨by first | rfl | (simp; done), rfl⟩
    · show Calls Tryz.prog 65 #[.int .u8 91] w _
      clear hs
      go_enter Tryz.func65, Tryz.ntmps65
      go_wp2
      go_ret
      exact ⟨by first | rfl | (simp; done), rfl⟩
    · show Calls Tryz.prog 65 #[.int .u8 93] w _
      clear hs
      go_enter Tryz.func65, Tryz.ntmps65
      go_wp2
      go_ret
      exact ⟨by first | rfl | (simp; done), rfl⟩
    · show Calls Tryz.prog 65 #[.int .u8 58] w _
      clear hs
      go_enter Tryz.func65, Tryz.ntmps65
      go_wp2
      go_ret
      exact ⟨by first | rfl | (simp; done), rfl⟩
    · show Calls Tryz.prog 65 #[.int .u8 59] w _
      clear hs
      go_enter Tryz.func65, Tryz.ntmps65
      go_wp2
      go_ret
      exact ⟨by first | rfl | (simp; done), rfl⟩
    · show Calls Tryz.prog 65 #[.int .u8 64] w _
      clear hs
      go_enter Tryz.func65, Tryz.ntmps65
      go_wp2
      go_ret
      exact ⟨by first | rfl | (simp; done), rfl⟩
    · show Calls Tryz.prog 65 #[.int .u8 92] w _
      clear hs
      go_enter Tryz.func65, Tryz.ntmps65
      go_wp2
      go_ret
      exact ⟨by first | rfl | (simp; done), rfl⟩
    · show Calls Tryz.prog 65 #[.int .u8 44] w _
      clear hs
      go_enter Tryz.func65, Tryz.ntmps65
      go_wp2
      go_ret
      exact ⟨by first | rfl | (simp; done), rfl⟩
    · show Calls Tryz.prog 65 #[.int .u8 46] w _
      clear hs
      go_enter Tryz.func65, Tryz.ntmps65
      go_wp2
      go_ret
      exact ⟨by first | rfl | (simp; done), rfl⟩
    · show Calls Tryz.prog 65 #[.int .u8 34] w _
      clear hs
      go_enter Tryz.func65, Tryz.ntmps65
      go_wp2
      go_ret
      exact ⟨by first | rfl | (simp; done), rfl⟩
  | false =>
    obtain ⟨f40, f41, f60, f62, f91, f93, f58, f59, f64, f92, f44, f46, f34⟩ := spec_not hs
    rw [hs] at ha
    have hc := c.toNat_lt
    clear hs
    by_cases h1 : 32 < c.toNat
    · by_cases h2 : c = 127
      · subst h2
        have e : atm 127 = false := by decide
        rw [e]
        show Calls Tryz.prog 65 #[.int .u8 127] w _
        clear ha h1 hc f40 f41 f60 f62 f91 f93 f58 f59 f64 f92 f44 f46 f34
        go_enter Tryz.func65, Tryz.ntmps65
        go_wp2
        go_ret
        exact ⟨by first | rfl | (simp; done), rfl⟩
      · have e : atm c = true := by rw [ha, decide_eq_true h1, beq_eq_false_iff_ne.2 h2]; rfl
        have q : ((c.toNat : Int) != 127) = true := bne_iff_ne.2 (fun e => h2 (UInt8.toNat_inj.1 (by show _ = 127; omega)))
        have q1 : decide ((c.toNat : Int) > 32) = true := decide_eq_true (by omega)
        have q2 : decide ((32 : Int) < (c.toNat : Int)) = true := decide_eq_true (by omega)
        rw [e]
        clear ha e h2
        go_enter Tryz.func65, Tryz.ntmps65
        go_wp2
        go_ret
        exact ⟨by first | rfl | (simp; done), rfl⟩
    · have e : atm c = false := by rw [ha, decide_eq_false h1]; rfl
      have q1 : decide ((c.toNat : Int) > 32) = false := decide_eq_false (by omega)
      have q2 : decide ((32 : Int) < (c.toNat : Int)) = false := decide_eq_false (by omega)
      rw [e]
      clear ha e
      go_enter Tryz.func65, Tryz.ntmps65
      go_wp2
      go_ret
      exact ⟨by first | rfl | (simp; done), rfl⟩
/-! dot-atoms, as the reference reads them -/
/-- from the i-th byte on; p: the byte before is a dot (or none is there) -/
def dtF : Bool → List UInt8 → Bool
  | p, [] => !p
  | p, c :: r => if c = 46 then !p && dtF true r else atm c && dtF false r
theorem dtF_spl : ∀ (l : List UInt8) (p : Bool), dtF p l = match spl 46 l with
    | [] => false
    | h :: t => ((!p || !h.isEmpty) && h.all atm) && t.all wordOk
  | [], p => by cases p <;> simp [dtF, spl]
  | c :: r, p => by
    unfold dtF spl
    by_cases hc : c = 46
    · rw [if_pos hc, if_pos hc, dtF_spl r true]
      cases hs : spl 46 r with
      | nil => exact absurd hs (spl_ne 46 r)
      | cons h t => cases p <;> simp [wordOk]
    · rw [if_neg hc, if_neg hc, dtF_spl r false]
      cases hs : spl 46 r with
      | nil => exact absurd hs (spl_ne 46 r)
      | cons h t => cases p <;> simp [Bool.and_assoc]
theorem dotted_dt (l : List UInt8) : dotted l = dtF true l := by
  unfold dotted
  rw [dtF_spl]
  cases hs : spl 46 l with
  | nil => exact absurd hs (spl_ne 46 l)
  | cons h t => simp [wordOk]
/-- a dot may not stand last: this is asked at the dot -/
def dtR : Bool → List UInt8 → Bool
  | _, [] => true
  | p, c :: r => if c = 46 then (!p && !r.isEmpty) && dtR true r else atm c && dtR false r
theorem dtR_eq : ∀ (l : List UInt8) (p : Bool), l ≠ [] → dtR p l = dtF p l
  | [], _, h => absurd rfl h
  | [c], p, _ => by
    unfold dtR dtF
    by_cases hc : c = 46
    · rw [if_pos hc, if_pos hc]; cases p <;> rfl
    · rw [if_neg hc, if_neg hc]; rfl
  | c :: d :: r, p, _ => by
    unfold dtR dtF
    by_cases hc : c = 46
    · rw [if_pos hc, if_pos hc, dtR_eq (d :: r) true (by simp)]
      cases p <;> rfl
    · rw [if_neg hc, if_neg hc, dtR_eq (d :: r) false (by simp)]
theorem dotted_R {l : List UInt8} (h : l ≠ []) : dotted l = dtR true l := by rw [dotted_dt, dtR_eq l true h]
theorem dt_step {s : ByteArray} {i : Nat} {p X : Bool} (h : Hid (dtR p (tl s i) = X)) (hi : i < s.size) :
    (s[i] = 46 → p = true → X = false) ∧ (s[i] = 46 → i + 1 = s.size → X = false) ∧ (s[i] = 46 → p = false → i + 1 ≠ s.size → Hid (dtR true (tl s (i + 1)) = X)) ∧
    (s[i] ≠ 46 → atm s[i] = false → X = false) ∧ (s[i] ≠ 46 → atm s[i] = true → Hid (dtR false (tl s (i + 1)) = X)) := by
  have e := h.out
  rw [tl_cons s i hi, dtR] at e
  refine ⟨fun h1 h2 => ?_, fun h1 h2 => ?_, fun h1 h2 h3 => ?_, fun h1 h2 => ?_, fun h1 h2 => ?_⟩
  · rw [if_pos h1, h2] at e; exact e.symm
  · rw [if_pos h1, tl_end s (i + 1) (by omega)] at e
    rw [← e]; cases p <;> rfl
  · have hne : (tl s (i + 1)).isEmpty = false := by
      have := tl_ne (s := s) (p := i + 1) (by omega)
      cases ht : tl s (i + 1) with
      | nil => exact absurd ht this
      | cons a r => rfl
    rw [if_pos h1, h2, hne] at e; exact e
  · rw [if_neg h1, h2] at e; exact e.symm
  · rw [if_neg h1, h2] at e; exact e
end Go.Proofs.YtilccofdphohiaaGreatDoor
namespace Go.Proofs.YtilccofdphohiaaGreatDoor
open Go.RowKit Pk Ad Tk Fo Su U8

set_option maxHeartbeats 4000000 in
set_option maxRecDepth 100000 in
theorem rdotted_any (s : ByteArray) (w : World) (hs : s.size ≤ 100000000) : Calls Tryz.prog 39 #[.string s] w fun e w' => e = .returned (.bool (dotted s.data.toList)) ∧ w = w' := by
  by_cases h0 : s.size = 0
  · have hn := nilS h0
    have e : dotted s.data.toList = false := by
      rw [List.eq_nil_of_length_eq_zero (show s.data.toList.length = 0 from h0)]; rfl
    rw [e]
    clear e
    go_enter Tryz.func39, Tryz.ntmps39
    go_wp2
    go_loopg [3] 0 (fun g iv wr => iv = .int .i64 0 ∧ w = wr)
    case atStart => exact ⟨by first | rfl | trivial, rfl⟩
    case round =>
      obtain ⟨rfl, rfl⟩ := hrel
      go_wp2
      go_ret
      exact ⟨rfl, rfl⟩
  · have hn := neS (S := s) (by omega)
    have hne : s.data.toList ≠ [] := fun e => h0 (by have := congrArg List.length e; exact this)
    rw [dotted_R hne]
    have hst : Hid (dtR true (tl s 0) = dtR true s.data.toList) := by show _ = _; rw [tl_zero]
    generalize dtR true s.data.toList = X at hst ⊢
    have HA := Lib.hid (fun c w => ratomA_any c w)
    clear hne
    go_enter Tryz.func39, Tryz.ntmps39
    go_wp2
    go_loopg [3] s.size (fun g iv wr => ∃ (i : Nat) (p : Bool), iv = .int .i64 i ∧ i + g = s.size ∧ w = wr ∧ Hid (p = true ↔ (i = 0 ∨ ∃ h : i - 1 < s.size, s[i - 1] = 46)) ∧ Hid (dtR p (tl s i) = X))
    case atStart => exact ⟨0, true, by first | rfl | trivial, by omega, rfl, ⟨fun _ => .inl rfl, fun _ => rfl⟩, hst⟩
    case round =>
      clear hst
      obtain ⟨i, p, rfl, hig, rfl, hp, hrel⟩ := hrel
      by_cases hlt : i < s.size
      · obtain ⟨s1, s2, s3, s4, s5⟩ := dt_step hrel hlt
        have z0 : (0 : Int) ≤ (i : Int) := by omega
        have z1 : (i : Int) < (s.size : Int) := by omega
        have hat := HA.out s[i]
        have hnp : ∀ q : Bool, (q = true ↔ s[i] = 46) → (q = true ↔ (i + 1 = 0 ∨ ∃ h : i + 1 - 1 < s.size, s[i + 1 - 1] = 46)) := fun q hq => by
          rw [hq]
          exact ⟨fun h => .inr ⟨by omega, by simpa using h⟩, fun h => by
            rcases h with h | ⟨h, h2⟩
            · omega
            · simpa using h2⟩
        have HNP := Lib.hid hnp
        clear hrel hnp
        by_cases hc : s[i] = 46
        · have d0 : ((s[i].toNat : Int) == 46) = true := by rw [hc]; rfl
          have d0n : ((s[i].toNat : Int) != 46) = false := by rw [hc]; rfl
          by_cases hi0 : i = 0
          · have d1 : ((i : Int) == 0) = true := beq_iff_eq.2 (by omega)
            obtain rfl := s1 hc (hp.out.2 (.inl hi0))
            clear s1 s2 s3 s4 s5 hp hat HNP hi0 hc
            go_wp2
            go_ret
            exact ⟨rfl, rfl⟩
          · have d1 : ((i : Int) == 0) = false := beq_eq_false_iff_ne.2 (by omega)
            by_cases hil : i + 1 = s.size
            · have d2 : (((i : Int) + 1) == (s.size : Int)) = true := beq_iff_eq.2 (by omega)
              obtain rfl := s2 hc hil
              clear s1 s2 s3 s4 s5 hp hat HNP hil hc
              go_wp2
              go_ret
              exact ⟨rfl, rfl⟩
            · have d2 : (((i : Int) + 1) == (s.size : Int)) = false := beq_eq_false_iff_ne.2 (by omega)
              have z2 : (0 : Int) ≤ (i : Int) - 1 := by omega
              have z3 : (i : Int) - 1 < (s.size : Int) := by omega
              have z4 : ((i : Int) - 1).toNat = i - 1 := by omega
              have z5 : i - 1 < s.size := by omega
              have z6 : IntKind.i64.wrap ((i : Int) - 1) = (i : Int) - 1 := by rw [IntKind.wrap_i64]; omega
              have z7 : wrap64 ((i : Int) - 1) = (i : Int) - 1 := by unfold wrap64; omega
              by_cases hc1 : s[i - 1] = 46
              · have d3 : ((s[i - 1].toNat : Int) == 46) = true := by rw [hc1]; rfl
                obtain rfl := s1 hc (hp.out.2 (.inr ⟨z5, hc1⟩))
                clear s1 s2 s3 s4 s5 hp hat HNP hc hc1
                go_wp2
                go_ret
                exact ⟨rfl, rfl⟩
              · have d3 : ((s[i - 1].toNat : Int) == 46) = false := beq_eq_false_iff_ne.2 (fun e => hc1 (UInt8.toNat_inj.1 (by show _ = 46; omega)))
                have hpf : p = false := by
                  cases p with
                  | false => rfl
                  | true => rcases hp.out.1 rfl with h | ⟨_, h⟩
                            · exact absurd h hi0
                            · exact absurd h hc1
                have hd := s3 hc hpf hil
                have hnp := Lib.hid (HNP.out true ⟨fun _ => hc, fun _ => rfl⟩)
                clear s1 s2 s3 s4 s5 hp hat HNP hc hc1 hpf
                go_wp2
                go_roundg (s.size - (i + 1))
                case rel => exact ⟨i + 1, true, by go_num, by omega, rfl, ⟨fun _ => hnp.out.1 (by first | rfl | trivial), fun _ => rfl⟩, hd⟩
                case measure => omega
        · have d0 : ((s[i].toNat : Int) == 46) = false := beq_eq_false_iff_ne.2 (fun e => hc (UInt8.toNat_inj.1 (by show _ = 46; omega)))
          have d0n : ((s[i].toNat : Int) != 46) = true := bne_iff_ne.2 (fun e => hc (UInt8.toNat_inj.1 (by show _ = 46; omega)))
          cases ha : atm s[i] with
          | false =>
            rw [ha] at hat
            have HAT := Lib.hid hat
            obtain rfl := s4 hc ha
            clear s1 s2 s3 s4 s5 hp hat HNP ha hc
            go_wp2_with (go_at_call 65; (with_reducible refine (HAT.out _).mono ?_); rintro e w' ⟨rfl, rfl⟩)
            go_ret
            exact ⟨rfl, rfl⟩
          | true =>
            rw [ha] at hat
            have HAT := Lib.hid hat
            have hd := s5 hc ha
            have hnp := Lib.hid (HNP.out false ⟨fun h => (Bool.noConfusion h), fun h => absurd h hc⟩)
            clear s1 s2 s3 s4 s5 hp hat HNP ha hc
            go_wp2_with (go_at_call 65; (with_reducible refine (HAT.out _).mono ?_); rintro e w' ⟨rfl, rfl⟩)
            go_roundg (s.size - (i + 1))
            case rel => exact ⟨i + 1, false, by go_num, by omega, rfl, hnp, hd⟩
            case measure => omega
      · have e := hrel.out
        rw [tl_end s i (by omega)] at e
        obtain rfl : X = true := e.symm
        clear hrel e hp
        go_wp2
        go_ret
        exact ⟨rfl, rfl⟩
end Go.Proofs.YtilccofdphohiaaGreatDoor
namespace Go.Proofs.YtilccofdphohiaaGreatDoor
open Go.RowKit Pk Ad Tk Fo Su U8

def qD (c : UInt8) : Bool := pl1 33 c && !(pA c)
theorem qD_all (l : List UInt8) : l.all qD = (plainA 33 l && !(l.any pA)) := by
  induction l with
  | nil => rfl
  | cons c r ih =>
    have h1 : plainA 33 (c :: r) = (pl1 33 c && plainA 33 r) := rfl
    rw [List.all_cons, ih, h1, List.any_cons]
    unfold qD
    cases pl1 33 c <;> cases pA c <;> cases plainA 33 r <;> cases r.any pA <;> rfl
theorem dot_91 (r : List UInt8) : dotted (91 :: r) = false := by
  rw [dotted_dt, dtF, if_neg (by decide)]
  have : atm 91 = false := by decide
  rw [this]; rfl
theorem dom_A {d : ByteArray} (h : ¬ (2 ≤ d.size ∧ d.data.toList.head? = some 91 ∧ d.data.toList.getLast? = some 93)) : domOk d.data.toList = dotted d.data.toList := by
  have hl : d.data.toList.length = d.size := rfl
  generalize d.data.toList = l at *
  unfold domOk
  split
  · rename_i r
    rw [dot_91]
    split
    · rename_i hg
      exfalso
      refine h ⟨?_, rfl, ?_⟩
      · rw [← hl, List.length_cons]
        cases r with
        | nil => cases hg
        | cons a t => rw [List.length_cons]; omega
      · cases r with
        | nil => cases hg
        | cons a t => rw [List.getLast?_cons_cons]; exact hg
    · rfl
  · rfl
theorem dom_B {d : ByteArray} (h2 : 2 ≤ d.size) (h0 : d.data.toList.head? = some 91) (h1 : d.data.toList.getLast? = some 93) : domOk d.data.toList = ((tl d 1).take (d.size - 1 - 1)).all qD := by
  have hl : d.data.toList.length = d.size := rfl
  have ht : tl d 1 = d.data.toList.drop 1 := rfl
  rw [ht, ← hl]
  rw [← hl] at h2
  generalize d.data.toList = l at *
  cases l with
  | nil => cases h0
  | cons c r =>
    obtain rfl : c = 91 := by injection h0
    have hr : r.getLast? = some 93 := by
      cases r with
      | nil => simp at h2
      | cons a t => rw [List.getLast?_cons_cons] at h1; exact h1
    show (match r.getLast? with | some 93 => plainA 33 r.dropLast && !(r.dropLast.any fun c => c == 91 || c == 93 || c == 92) | _ => false) = _
    rw [hr]
    show (plainA 33 r.dropLast && !(r.dropLast.any pA)) = _
    rw [← qD_all, List.dropLast_eq_take]
    rfl
theorem qd_step {d : ByteArray} {i : Nat} {X : Bool} (h : Hid (((tl d i).take (d.size - 1 - i)).all qD = X)) (hi : i < d.size - 1) :
    (qD (d[i]'(by omega)) = true → Hid (((tl d (i + 1)).take (d.size - 1 - (i + 1))).all qD = X)) ∧ (qD (d[i]'(by omega)) = false → X = false) := by
  have e := h.out
  obtain ⟨k, hk⟩ : ∃ k, d.size - 1 - i = k + 1 := ⟨d.size - 1 - i - 1, by omega⟩
  have hk2 : d.size - 1 - (i + 1) = k := by omega
  rw [tl_cons d i (by omega), hk, List.take_succ_cons, List.all_cons] at e
  rw [hk2]
  exact ⟨fun h1 => by rw [h1, Bool.true_and] at e; exact e, fun h1 => by rw [h1, Bool.false_and] at e; exact e.symm⟩
theorem qd_end {d : ByteArray} {i : Nat} {X : Bool} (h : Hid (((tl d i).take (d.size - 1 - i)).all qD = X)) (hi : ¬ i < d.size - 1) : X = true := by
  have e := h.out
  rw [show d.size - 1 - i = 0 by omega] at e
  exact e.symm
theorem head_at {d : ByteArray} (h : 0 < d.size) : d.data.toList.head? = some d[0] := by
  have := tl_cons d 0 h
  rw [tl_zero] at this
  rw [this]; rfl
theorem last_at {d : ByteArray} (h : 0 < d.size) : d.data.toList.getLast? = some (d[d.size - 1]'(by omega)) := by
  rw [List.getLast?_eq_getElem?]
  show d.data.toList[d.size - 1]? = _
  rw [List.getElem?_eq_getElem (by show d.size - 1 < d.size; omega)]; rfl
set_option maxHeartbeats 4000000 in
set_option maxRecDepth 100000 in
theorem rright_any (nm lo dm : ByteArray) (w : World) (h1 : nm.size ≤ 1000000) (h2 : lo.size ≤ 1000000) (h3 : dm.size ≤ 1000000) :
    Calls Tryz.prog 19 #[.agg #[.string nm, .string lo, .string dm]] w fun e w' => e = .returned (.bool (rightA ⟨nm.data.toList, lo.data.toList, dm.data.toList⟩)) ∧ Below w.heap.size w w' := by
  obtain ⟨X, hX⟩ : ∃ X, X = rightA ⟨nm.data.toList, lo.data.toList, dm.data.toList⟩ := ⟨_, rfl⟩
  rw [← hX]
  rw [rightA_of] at hX
  simp only [dataL] at hX
  have tb : Below w.heap.size w (w.alloc (.cells #[.string nm, .string lo, .string dm] 34)) := (Below.refl _ _).alloc (Nat.le_refl _) _
  have kk := heap_alloc_new w (.cells #[.string nm, .string lo, .string dm] 34)
  have y0 := Lib.cell_of_heap kk 0
  have y1 := Lib.cell_of_heap kk 1
  have y2 := Lib.cell_of_heap kk 2
  have HD := Lib.hid (fun W => rdotted_any dm W (by omega))
  by_cases c1 : lo.size = 0
  · have q1 := nilS c1
    obtain rfl : X = false := by rw [hX, decide_eq_false (by omega)]; rfl
    clear hX
    go_enter Tryz.func19, Tryz.ntmps19
    go_wp2
    go_ret
    exact ⟨rfl, tb⟩
  · have q1 := neS (S := lo) (by omega)
    rw [decide_eq_true (by omega : 1 ≤ lo.size), Bool.true_and] at hX
    by_cases c2 : lo.size > 64
    · obtain rfl : X = false := by rw [hX, decide_eq_false (by omega)]; rfl
      have q2 : decide ((lo.size : Int) > 64) = true := decide_eq_true (by omega)
      have q2' : decide ((64 : Int) < (lo.size : Int)) = true := decide_eq_true (by omega)
      clear hX c2
      go_enter Tryz.func19, Tryz.ntmps19
      go_wp2
      go_ret
      exact ⟨rfl, tb⟩
    · have q2 : decide ((lo.size : Int) > 64) = false := decide_eq_false (by omega)
      have q2' : decide ((64 : Int) < (lo.size : Int)) = false := decide_eq_false (by omega)
      rw [decide_eq_true (by omega : lo.size ≤ 64), Bool.true_and] at hX
      by_cases c3 : dm.size > 255
      · obtain rfl : X = false := by rw [hX, decide_eq_false (by omega)]; rfl
        have q3 : decide ((dm.size : Int) > 255) = true := decide_eq_true (by omega)
        have q3' : decide ((255 : Int) < (dm.size : Int)) = true := decide_eq_true (by omega)
        clear hX c3
        go_enter Tryz.func19, Tryz.ntmps19
        go_wp2
        go_ret
        exact ⟨rfl, tb⟩
      · have q3 : decide ((dm.size : Int) > 255) = false := decide_eq_false (by omega)
        have q3' : decide ((255 : Int) < (dm.size : Int)) = false := decide_eq_false (by omega)
        rw [decide_eq_true (by omega : dm.size ≤ 255), Bool.true_and] at hX
        by_cases c4 : nm.size > 200
        · obtain rfl : X = false := by rw [hX, decide_eq_false (by omega)]; rfl
          have q4 : decide ((nm.size : Int) > 200) = true := decide_eq_true (by omega)
          have q4' : decide ((200 : Int) < (nm.size : Int)) = true := decide_eq_true (by omega)
          clear hX c4
          go_enter Tryz.func19, Tryz.ntmps19
          go_wp2
          go_ret
          exact ⟨rfl, tb⟩
        · have q4 : decide ((nm.size : Int) > 200) = false := decide_eq_false (by omega)
          have q4' : decide ((200 : Int) < (nm.size : Int)) = false := decide_eq_false (by omega)
          rw [decide_eq_true (by omega : nm.size ≤ 200), Bool.true_and] at hX
          obtain ⟨AL, hAL⟩ : ∃ AL, AL = lo ++ nm := ⟨_, rfl⟩
          have hpl : plainA 32 (lo.data.toList ++ nm.data.toList) = AL.data.toList.all (pl1 32) := by rw [hAL, dL_app]; rfl
          have hALz : AL.size ≤ 300 := by rw [hAL, ByteArray.size_append]; omega
          rw [hpl] at hX
          have HX := Lib.hid hX
          have hst : Hid ((tl AL 0).all (pl1 32) = AL.data.toList.all (pl1 32)) := by show _ = _; rw [tl_zero]
          clear hX hpl
          go_enter Tryz.func19, Tryz.ntmps19
          go_wp2
          simp only [← hAL]
          clear hAL
          go_loopg [4] AL.size (fun g iv wr => ∃ k : Nat, iv = .int .i64 k ∧ k + g = AL.size ∧ w.alloc (.cells #[.string nm, .string lo, .string dm] 34) = wr ∧ Hid ((tl AL k).all (pl1 32) = AL.data.toList.all (pl1 32)))
          case atStart => exact ⟨0, by first | rfl | trivial, by omega, rfl, hst⟩
          case round =>
            clear hst
            obtain ⟨k, rfl, hkg, rfl, hrel⟩ := hrel
            have z0 : (0 : Int) ≤ (k : Int) := by omega
            by_cases hlt : k < AL.size
            · obtain ⟨s1, s2⟩ := all_at hlt hrel.out
              have z1 : (k : Int) < (AL.size : Int) := by omega
              have hp : pl1 32 AL[k] = (decide (32 ≤ AL[k].toNat) && !(AL[k] == 127)) := rfl
              by_cases b1 : 32 ≤ AL[k].toNat
              · have d1 : decide ((AL[k].toNat : Int) < 32) = false := decide_eq_false (by omega)
                have d1' : decide (AL[k].toNat < 32) = false := decide_eq_false (by omega)
                by_cases b2 : AL[k] = 127
                · have d2 : ((AL[k].toNat : Int) == 127) = true := by rw [b2]; rfl
                  have e := s2 (by rw [hp, b2]; simp)
                  have hXf : X = false := by rw [HX.out, e]; rfl
                  clear s1 s2 hp b2 e hrel HX
                  subst hXf
                  go_wp2
                  go_ret
                  exact ⟨rfl, tb⟩
                · have d2 : ((AL[k].toNat : Int) == 127) = false := beq_eq_false_iff_ne.2 (fun e => b2 (UInt8.toNat_inj.1 (by show _ = 127; omega)))
                  have hd := Lib.hid (s1 (by rw [hp, decide_eq_true b1, beq_eq_false_iff_ne.2 b2]; rfl))
                  clear s1 s2 hp b2 hrel
                  go_wp2
                  go_roundg (AL.size - (k + 1))
                  case rel => exact ⟨k + 1, by go_num, by omega, rfl, hd⟩
                  case measure => omega
              · have d1 : decide ((AL[k].toNat : Int) < 32) = true := decide_eq_true (by omega)
                have d1' : decide (AL[k].toNat < 32) = true := decide_eq_true (by omega)
                have e := s2 (by rw [hp, decide_eq_false b1]; rfl)
                have hXf : X = false := by rw [HX.out, e]; rfl
                clear s1 s2 hp e hrel HX
                subst hXf
                go_wp2
                go_ret
                exact ⟨rfl, tb⟩
            · have e := hrel.out
              rw [tl_end AL k (by omega)] at e
              have hX := HX.out
              rw [← e] at hX
              have hX : X = domOk dm.data.toList := hX
              clear hrel e HX z0
              by_cases n2 : dm.size < 2
              · have d1 : decide ((dm.size : Int) < 2) = true := decide_eq_true (by omega)
                have d1' : decide (dm.size < 2) = true := decide_eq_true n2
                have hno : ¬ (2 ≤ dm.size ∧ dm.data.toList.head? = some 91 ∧ dm.data.toList.getLast? = some 93) := fun h => absurd h.1 (by omega)
                clear n2
                have HX := Lib.hid (hX.trans (dom_A hno))
                clear hX hno
                go_wp2_with (go_at_call 39; (with_reducible refine (HD.out _).mono ?_); rintro e w' ⟨rfl, rfl⟩)
                go_ret
                exact ⟨by rw [HX.out]; rfl, tb⟩
              · have d1 : decide ((dm.size : Int) < 2) = false := decide_eq_false (by omega)
                have d1' : decide (dm.size < 2) = false := decide_eq_false n2
                have p0 : 0 < dm.size := by omega
                have p0' : (0 : Int) < (dm.size : Int) := by omega
                have hh := head_at p0
                have hla := last_at p0
                by_cases n3 : dm[0] = 91
                · have d2 : ((dm[0].toNat : Int) != 91) = false := by rw [n3]; rfl
                  have r0 : (0 : Int) ≤ (dm.size : Int) - 1 := by omega
                  have r1 : (dm.size : Int) - 1 < (dm.size : Int) := by omega
                  have r2 : ((dm.size : Int) - 1).toNat = dm.size - 1 := by omega
                  have r3 : dm.size - 1 < dm.size := by omega
                  have r4 : IntKind.i64.wrap ((dm.size : Int) - 1) = (dm.size : Int) - 1 := by rw [IntKind.wrap_i64]; omega
                  have r5 : wrap64 ((dm.size : Int) - 1) = (dm.size : Int) - 1 := by unfold wrap64; omega
                  by_cases n4 : dm[dm.size - 1] = 93
                  · have d3 : ((dm[dm.size - 1].toNat : Int) != 93) = false := by rw [n4]; rfl
                    have hB := dom_B (d := dm) (by omega) (by rw [hh, n3]) (by rw [hla, n4])
                    have hst : Hid (((tl dm 1).take (dm.size - 1 - 1)).all qD = X) := by show _ = _; rw [hX, hB]
                    clear hX hB hh hla n3 n4
                    go_wp2
                    go_loopg [7] (dm.size - 1) (fun g iv wr => ∃ k : Nat, iv = .int .i64 k ∧ 1 ≤ k ∧ k + g = dm.size ∧ w.alloc (.cells #[.string nm, .string lo, .string dm] 34) = wr ∧ Hid (((tl dm k).take (dm.size - 1 - k)).all qD = X))
                    case atStart => exact ⟨1, by first | rfl | trivial, Nat.le_refl _, by omega, rfl, hst⟩
                    case round =>
                      clear hst
                      obtain ⟨i, rfl, hi1, hig, rfl, hrel⟩ := hrel
                      have z0 : (0 : Int) ≤ (i : Int) := by omega
                      by_cases hli : i < dm.size - 1
                      · obtain ⟨s1, s2⟩ := qd_step hrel hli
                        have hid : i < dm.size := by omega
                        have z1 : (i : Int) < (dm.size : Int) := by omega
                        have z2 : (i : Int) < (dm.size : Int) - 1 := by omega
                        have z3 : decide ((i : Int) < (dm.size : Int) - 1) = true := decide_eq_true z2
                        have hq : qD dm[i] = ((decide (33 ≤ dm[i].toNat) && !(dm[i] == 127)) && !(dm[i] == 91 || dm[i] == 93 || dm[i] == 92)) := rfl
                        rw [hq] at s1 s2
                        have hu : ∀ b : UInt8, ((dm[i].toNat : Int) == (b.toNat : Int)) = (dm[i] == b) := fun b => by
                          by_cases h : dm[i] = b
                          · rw [h]; simp
                          · rw [beq_eq_false_iff_ne.2 h, beq_eq_false_iff_ne.2 (fun e => h (UInt8.toNat_inj.1 (by omega)))]
                        have u127 : ((dm[i].toNat : Int) == 127) = (dm[i] == 127) := hu 127
                        have u91 : ((dm[i].toNat : Int) == 91) = (dm[i] == 91) := hu 91
                        have u93 : ((dm[i].toNat : Int) == 93) = (dm[i] == 93) := hu 93
                        have u92 : ((dm[i].toNat : Int) == 92) = (dm[i] == 92) := hu 92
                        clear hq hrel hu
                        by_cases b0 : 33 ≤ dm[i].toNat
                        · have d0 : decide ((dm[i].toNat : Int) ≤ 32) = false := decide_eq_false (by omega)
                          have d0' : decide (dm[i].toNat ≤ 32) = false := decide_eq_false (by omega)
                          rw [decide_eq_true b0] at s1 s2
                          generalize (dm[i] == 127) = t1 at *
                          generalize (dm[i] == 91) = t2 at *
                          generalize (dm[i] == 93) = t3 at *
                          generalize (dm[i] == 92) = t4 at *
                          cases t1 with
                          | true =>
                            obtain rfl := s2 rfl
                            clear s1 s2
                            go_wp2
                            go_ret
                            exact ⟨rfl, tb⟩
                          | false =>
                            cases t2 with
                            | true =>
                              obtain rfl := s2 rfl
                              clear s1 s2
                              go_wp2
                              go_ret
                              exact ⟨rfl, tb⟩
                            | false =>
                              cases t3 with
                              | true =>
                                obtain rfl := s2 rfl
                                clear s1 s2
                                go_wp2
                                go_ret
                                exact ⟨rfl, tb⟩
                              | false =>
                                cases t4 with
                                | true =>
                                  obtain rfl := s2 rfl
                                  clear s1 s2
                                  go_wp2
                                  go_ret
                                  exact ⟨rfl, tb⟩
                                | false =>
                                  have hd := s1 rfl
                                  clear s1 s2
                                  go_wp2
                                  go_roundg (dm.size - (i + 1))
                                  case rel => exact ⟨i + 1, by go_num, by omega, by omega, rfl, hd⟩
                                  case measure => omega
                        · have d0 : decide ((dm[i].toNat : Int) ≤ 32) = true := decide_eq_true (by omega)
                          have d0' : decide (dm[i].toNat ≤ 32) = true := decide_eq_true (by omega)
                          obtain rfl := s2 (by rw [decide_eq_false b0]; rfl)
                          clear s1 s2 u127 u91 u93 u92
                          go_wp2
                          go_ret
                          exact ⟨rfl, tb⟩
                      · obtain rfl := qd_end hrel hli
                        have z3 : decide ((i : Int) < (dm.size : Int) - 1) = false := decide_eq_false (by omega)
                        clear hrel hli hi1 z0
                        go_wp2
                        go_ret
                        exact ⟨rfl, tb⟩
                  · have d3 : ((dm[dm.size - 1].toNat : Int) != 93) = true := bne_iff_ne.2 (fun e => n4 (UInt8.toNat_inj.1 (by show _ = 93; omega)))
                    have hno : ¬ (2 ≤ dm.size ∧ dm.data.toList.head? = some 91 ∧ dm.data.toList.getLast? = some 93) := fun h => n4 (by have := h.2.2; rw [hla] at this; injection this)
                    clear n4 hh hla
                    have HX := Lib.hid (hX.trans (dom_A hno))
                    clear hX hno
                    go_wp2_with (go_at_call 39; (with_reducible refine (HD.out _).mono ?_); rintro e w' ⟨rfl, rfl⟩)
                    go_ret
                    exact ⟨by rw [HX.out]; rfl, tb⟩
                · have d2 : ((dm[0].toNat : Int) != 91) = true := bne_iff_ne.2 (fun e => n3 (UInt8.toNat_inj.1 (by show _ = 91; omega)))
                  have hno : ¬ (2 ≤ dm.size ∧ dm.data.toList.head? = some 91 ∧ dm.data.toList.getLast? = some 93) := fun h => n3 (by have := h.2.1; rw [hh] at this; injection this)
                  clear n3 hh hla
                  have HX := Lib.hid (hX.trans (dom_A hno))
                  clear hX hno
                  go_wp2_with (go_at_call 39; (with_reducible refine (HD.out _).mono ?_); rintro e w' ⟨rfl, rfl⟩)
                  go_ret
                  exact ⟨by rw [HX.out]; rfl, tb⟩
end Go.Proofs.YtilccofdphohiaaGreatDoor
namespace Go.Proofs.YtilccofdphohiaaGreatDoor
open Go.RowKit Pk Ad Tk Fo Su U8

set_option maxHeartbeats 1000000 in
set_option maxRecDepth 100000 in
theorem rcanon_any (nm lo dm : ByteArray) (w : World) (h1 : lo.size ≤ 1000000) (h2 : dm.size ≤ 1000000) : Calls Tryz.prog 21 #[.agg #[.string nm, .string lo, .string dm]] w (StrIs (lo.data.toList ++ 64 :: dm.data.toList.map lowA) w) := by
  obtain ⟨w0, hw0⟩ : ∃ w0, w0 = w.alloc (.cells #[.string nm, .string lo, .string dm] 34) := ⟨_, rfl⟩
  have k0 : w0.heap[w.heap.size]? = some (.cells #[.string nm, .string lo, .string dm] 34 (0, 0)) := by rw [hw0]; exact heap_alloc_new w _
  have tb : Below w.heap.size w w0 := by rw [hw0]; exact (Below.refl _ _).alloc (Nat.le_refl _) _
  obtain ⟨cp, w1, hcv, hrow, hb1, hz1⟩ := conv_row (P := Tryz.prog) w0 9 45 5 dm Tryz.underlying9 Tryz.underlying45 Tryz.underlying5
  have hgb : w.heap.size < w0.heap.size := lt_of_block k0
  have kk := blkKept hb1 k0
  have hrow : rowF w1 w0.heap.size 5 ([] ++ tl dm 0) := by rw [tl_zero]; exact hrow
  have hst : Hid (CanIs dm (dm.data.toList.map lowA) [] 0) := ⟨rfl, by rw [tl_zero]; rfl⟩
  have hcv : (convert 9 45 (.string dm)).run Tryz.prog (w.alloc (.cells #[.string nm, .string lo, .string dm] 34)) = .ok (.slice (some ⟨w0.heap.size, 0, none⟩) dm.size cp) w1 := by rw [← hw0]; exact hcv
  have hb0 : Below w0.heap.size w0 w1 := hb1
  clear hw0 hb1 hz1
  obtain ⟨g, hg⟩ : ∃ g, g = w0.heap.size := ⟨_, rfl⟩
  rw [← hg] at hcv hrow hb0 hgb
  have HG := Lib.hid hg
  have c1 := Lib.cell_of_heap kk 1
  have y2 : (w.alloc (.cells #[.string nm, .string lo, .string dm] 34)).cell? ⟨w.heap.size, 2, none⟩ = some (.string dm) := Lib.cell_of_heap (heap_alloc_new w _) 2
  clear hg
  go_enter Tryz.func21, Tryz.ntmps21
  go_wp2
  go_loopw [4] (fun iv wr => ∃ (k : Nat) (acc : List UInt8), iv = .int .i64 k ∧ k ≤ dm.size ∧ rowF wr g 5 (acc ++ tl dm k) ∧ Below g w0 wr ∧ Hid (CanIs dm (dm.data.toList.map lowA) acc k)) (fun iv _ => dm.size - (intOf iv).toNat)
  case atStart => exact ⟨0, [], by first | rfl | trivial, by omega, hrow, hb0, hst⟩
  case round =>
    clear hrow hcv hb0 hst c1 y2
    obtain ⟨k, acc, rfl, hk, hrow, hbel, hrel⟩ := hrel
    by_cases hlt : k < dm.size
    · have hl : acc.length = k := hrel.out.1
      have hc := midA_cell hrow hl hlt
      have hf := rowF_frozen hrow k (by rw [midA_len hl (by omega)]; exact hlt)
      have hnx := Lib.hid (can_step hrel.out hlt)
      have hkeep := hrow
      rw [midA_keep (acc := acc) hlt] at hkeep
      have z0 : (0 : Int) ≤ (k : Int) := by omega
      have z1 : (k : Int) < (dm.size : Int) := by omega
      generalize dm[k] = c at *
      have hcb := c.toNat_lt
      by_cases hcap : 65 ≤ c.toNat ∧ c.toNat ≤ 90
      · obtain ⟨a1, a2⟩ := hcap
        have hrow2 := rowF_stored hrow k ((c.toNat : Int) + 32) (by omega) (by omega)
        rw [midA_set hl hlt, b8_lowA a1 a2] at hrow2
        have hbel2 : Below g w0 (wr.setCell ⟨g, k, none⟩ (.int .u8 ((c.toNat : Int) + 32))) := hbel.setCell (Nat.le_refl _) _
        clear hrow hrel hl hkeep
        go_wp2
        go_roundw
        case rel => exact ⟨k + 1, _, by go_num, by omega, hrow2, hbel2, hnx⟩
        case measure => simp [intOf]; omega
      · rw [lowA_keep hcap] at hnx
        clear hrow hrel hl
        by_cases a1 : 65 ≤ c.toNat
        · have a2 : ¬ c.toNat ≤ 90 := fun h => hcap ⟨a1, h⟩
          clear hcap
          go_wp2
          go_roundw
          case rel => exact ⟨k + 1, _, by go_num, by omega, hkeep, hbel, hnx⟩
          case measure => simp [intOf]; omega
        · clear hcap
          go_wp2
          go_roundw
          case rel => exact ⟨k + 1, _, by go_num, by omega, hkeep, hbel, hnx⟩
          case measure => simp [intOf]; omega
    · obtain rfl : k = dm.size := by omega
      have hX := can_end hrel.out hlt
      have hl : (acc ++ tl dm dm.size).length = dm.size := by
        rw [List.length_append, tl_length, hrel.out.1]; omega
      have hcv2 := run_string_row (P := Tryz.prog) (ts := 9) (n := dm.size) (cap := cp) bslA Tryz.underlying9 hrow hl
      rw [tl_end dm dm.size (Nat.le_refl _), List.append_nil] at hcv2
      have hal := hrel.out.1
      obtain ⟨S, hS1, hS2, hS3⟩ := arrE acc
      rw [← hS1] at hcv2
      have hSz : S.size = dm.size := by omega
      have kk2 := (hbel.block _ hgb).trans k0
      have c1 := Lib.cell_of_heap kk2 1
      have hpost : Hid (StrIs (lo.data.toList ++ 64 :: dm.data.toList.map lowA) w (.returned (.string (lo ++ ⟨#[64]⟩ ++ S))) wr) := by
        refine ⟨?_, tb.trans (hbel.mono (Nat.le_of_lt hgb))⟩
        have e : (lo ++ ⟨#[64]⟩ ++ S : ByteArray).data.toList = lo.data.toList ++ 64 :: dm.data.toList.map lowA := by
          rw [dL_app, dL_app, hS2, hX]
          show lo.data.toList ++ [64] ++ _ = _
          simp
        rw [mk_of e]
      clear hrel hl hrow hX hal hS1 hS2 hS3 hbel kk2
      go_wp2
      go_ret
      exact hpost.out
end Go.Proofs.YtilccofdphohiaaGreatDoor
namespace Go.Proofs.YtilccofdphohiaaGreatDoor
open Go.RowKit Pk Ad Tk Fo Su U8

theorem joinA_snoc : ∀ (L : List (List UInt8)) (x : List UInt8), joinA (L ++ [x]) = if L = [] then x else joinA L ++ 44 :: 32 :: x
  | [], x => rfl
  | [y], x => by rw [if_neg (by simp)]; rfl
  | y :: z :: r, x => by
    have ih := joinA_snoc (z :: r) x
    rw [if_neg (by simp)] at ih ⊢
    show y ++ 44 :: 32 :: joinA ((z :: r) ++ [x]) = _
    rw [ih]
    show _ = (y ++ 44 :: 32 :: joinA (z :: r)) ++ 44 :: 32 :: x
    simp
/-- what is written of the first i addresses -/
def WrAt (ys : List AdB) (i : Nat) (O : ByteArray) : Prop := O.data.toList = joinA ((ys.take i).map fun a => writeA a.lst)
theorem wr_zero (ys : List AdB) : WrAt ys 0 ⟨#[]⟩ := rfl
theorem wr_step {ys : List AdB} {i : Nat} {O : ByteArray} (h : Hid (WrAt ys i O)) (hi : i < ys.length) :
    (i = 0 → ∀ S : ByteArray, S.data.toList = writeA ys[i].lst → Hid (WrAt ys (i + 1) (O ++ S))) ∧ (i ≠ 0 → ∀ S : ByteArray, S.data.toList = writeA ys[i].lst → Hid (WrAt ys (i + 1) (O ++ ⟨#[44, 32]⟩ ++ S))) := by
  have e := h.out
  unfold WrAt at e
  refine ⟨fun h0 S hS => ?_, fun h0 S hS => ?_⟩
  · show _ = _
    subst h0
    rw [List.take_succ_eq_append_getElem hi, List.map_append, dL_app, e, hS]; rfl
  · show _ = _
    have hne : (ys.take i).map (fun a => writeA a.lst) ≠ [] := fun e => by
      have := congrArg List.length e
      rw [List.length_map, List.length_take, List.length_nil] at this
      omega
    rw [List.take_succ_eq_append_getElem hi, List.map_append, List.map_cons, List.map_nil, joinA_snoc, if_neg hne, dL_app, dL_app, e, hS]
    show _ ++ [44, 32] ++ _ = _
    simp
/-- the quoted local part so far -/
def EsAt (lo : ByteArray) (k : Nat) (S : ByteArray) : Prop := S.data.toList = 34 :: (lo.data.toList.take k).flatMap escA
theorem es_zero (lo : ByteArray) : EsAt lo 0 ⟨#[34]⟩ := rfl
theorem es_step {lo : ByteArray} {k : Nat} {S E : ByteArray} (h : Hid (EsAt lo k S)) (hk : k < lo.size) (hE : E.data.toList = [lo[k]]) :
    ((lo[k] = 34 ∨ lo[k] = 92) → Hid (EsAt lo (k + 1) (S ++ ⟨#[92]⟩ ++ E))) ∧ (¬ (lo[k] = 34 ∨ lo[k] = 92) → Hid (EsAt lo (k + 1) (S ++ E))) := by
  have e := h.out
  unfold EsAt at e
  have hl : k < lo.data.toList.length := hk
  have hg : lo.data.toList[k] = lo[k] := rfl
  refine ⟨fun h1 => ?_, fun h1 => ?_⟩
  · show _ = _
    rw [List.take_succ_eq_append_getElem hl, List.flatMap_append, hg, dL_app, dL_app, e, hE]
    show 34 :: _ ++ [92] ++ [lo[k]] = 34 :: (_ ++ (escA lo[k] ++ []))
    unfold escA
    rw [if_pos h1]; simp
  · show _ = _
    rw [List.take_succ_eq_append_getElem hl, List.flatMap_append, hg, dL_app, e, hE]
    show 34 :: _ ++ [lo[k]] = 34 :: (_ ++ (escA lo[k] ++ []))
    unfold escA
    rw [if_neg h1]; simp
theorem es_size {lo : ByteArray} {k : Nat} {S : ByteArray} (h : Hid (EsAt lo k S)) : S.size ≤ 1 + 2 * lo.size := by
  have e := congrArg List.length h.out
  rw [List.length_cons, dataL] at e
  have h1 := esc_le (lo.data.toList.take k)
  have h2 : (lo.data.toList.take k).length ≤ lo.data.toList.length := (List.take_sublist k _).length_le
  have h3 : lo.data.toList.length = lo.size := rfl
  omega
theorem es_end {lo : ByteArray} {k : Nat} {S : ByteArray} (h : Hid (EsAt lo k S)) (hk : ¬ k < lo.size) : (S ++ ⟨#[34]⟩ : ByteArray).data.toList = 34 :: (lo.data.toList.flatMap escA ++ [34]) := by
  have e := h.out
  unfold EsAt at e
  rw [List.take_of_length_le (by show lo.size ≤ k; omega)] at e
  rw [dL_app, e]; rfl
theorem one_ext {lo : ByteArray} {k : Nat} (hk : k < lo.size) : (lo.extract k (k + 1)).data.toList = [lo[k]] := by
  rw [ext_eq]
  show (tl lo k).take (k + 1 - k) = _
  rw [tl_cons lo k hk, show k + 1 - k = 1 by omega]; rfl
set_option maxHeartbeats 8000000 in
set_option maxRecDepth 100000 in
theorem rwrite_any (v : Value) (ys : List AdB) (w : World) (hv : AdSees w v ys) (hn : ys.length ≤ 20) (hs : ∀ a ∈ ys, a.name.size ≤ 300 ∧ a.loc.size ≤ 300 ∧ a.dom.size ≤ 300) :
    Calls Tryz.prog 23 #[v] w (StrIs (writeLst (ys.map AdB.lst)) w) := by
  obtain ⟨p, c, rfl, hc, hcs⟩ := hv
  have HC := Lib.hid hcs
  have HZ := Lib.hid hs
  have hst := Lib.hid (wr_zero ys)
  clear hcs hs
  go_enter Tryz.func23, Tryz.ntmps23
  go_wp2
  go_loopg [3, 4] ys.length (fun g ov iv wr => ∃ (i : Nat) (O : ByteArray), ov = .string O ∧ iv = .int .i64 i ∧ i + g = ys.length ∧ Below w.heap.size w wr ∧ O.size ≤ i * 3000 ∧ Hid (WrAt ys i O))
  case atStart => exact ⟨0, ⟨#[]⟩, by first | rfl | trivial, by first | rfl | trivial, by omega, Below.refl _ _, by decide, hst⟩
  case round =>
    clear hst
    obtain ⟨i, O, rfl, rfl, hig, tb, hOz, hrel⟩ := hrel
    by_cases hlt : i < ys.length
    · obtain ⟨gg, o, rfl, hcell⟩ : ∃ g o, p = some ⟨g, o, none⟩ ∧ ∀ j (hj : j < ys.length), w.cell? ⟨g, o + j * 3, none⟩ = some (.string ys[j].name) ∧ w.cell? ⟨g, o + j * 3 + 1, none⟩ = some (.string ys[j].loc) ∧ w.cell? ⟨g, o + j * 3 + 2, none⟩ = some (.string ys[j].dom) := by
        rcases HC.out with h | h
        · rw [h] at hlt; simp at hlt
        · exact h
      obtain ⟨c0, c1, c2⟩ := hcell i hlt
      have c0 := laterW (tb.mono (Nat.le_refl _)) c0
      have c1 := laterW (tb.mono (Nat.le_refl _)) c1
      have c2 := laterW (tb.mono (Nat.le_refl _)) c2
      obtain ⟨s1, s2⟩ := wr_step hrel hlt
      obtain ⟨n1, n2, n3⟩ := HZ.out ys[i] (List.getElem_mem hlt)
      have z0 : (0 : Int) ≤ (i : Int) := by omega
      have z1 : (i : Int) < (ys.length : Int) := by omega
      generalize ys[i] = a at *
      obtain ⟨nm, lo, dm⟩ := a
      have c0 : wr.cell? ⟨gg, o + i * 3, none⟩ = some (.string nm) := c0
      have c1 : wr.cell? ⟨gg, o + i * 3 + 1, none⟩ = some (.string lo) := c1
      have c2 : wr.cell? ⟨gg, o + i * 3 + 2, none⟩ = some (.string dm) := c2
      have n1 : nm.size ≤ 300 := n1
      have n2 : lo.size ≤ 300 := n2
      have n3 : dm.size ≤ 300 := n3
      clear hcell hrel
      have HDt := Lib.hid (fun W => rdotted_any lo W (by omega))
      have hQ := fun W => rquote_any nm W (by omega)
      obtain ⟨Q, hQ1, hQ2, hQ3⟩ := arrE (quoteL nm.data.toList)
      have hQz : Q.size ≤ 602 := by have := quoteL_len nm.data.toList; rw [dataL] at this; omega
      unfold StrIs at hQ
      rw [← hQ1] at hQ
      have HQ := Lib.hid hQ
      clear hQ hQ1 hQ3
      have hO9 : O.size ≤ 60000 := by omega
      have hw : ∀ SP : ByteArray, SP.data.toList = locW lo.data.toList → (nm.size = 0 → (SP ++ ⟨#[64]⟩ ++ dm : ByteArray).data.toList = writeA ⟨nm.data.toList, lo.data.toList, dm.data.toList⟩) ∧ (nm.size ≠ 0 → (Q ++ ⟨#[32, 60]⟩ ++ (SP ++ ⟨#[64]⟩ ++ dm) ++ ⟨#[62]⟩ : ByteArray).data.toList = writeA ⟨nm.data.toList, lo.data.toList, dm.data.toList⟩) := fun SP hSP => by
        refine ⟨fun h0 => ?_, fun h0 => ?_⟩
        · have e : nm.data.toList = [] := List.eq_nil_of_length_eq_zero h0
          unfold writeA
          rw [if_pos e, dL_app, dL_app, hSP]
          show locW _ ++ [64] ++ _ = locW _ ++ 64 :: _
          simp
        · have e : nm.data.toList ≠ [] := fun e => h0 (by have := congrArg List.length e; exact this)
          unfold writeA
          rw [if_neg e, dL_app, dL_app, dL_app, dL_app, dL_app, hSP, hQ2]
          show quoteL _ ++ [32, 60] ++ (locW _ ++ [64] ++ _) ++ [62] = quoteL _ ++ 32 :: 60 :: ((locW _ ++ 64 :: _) ++ [62])
          simp
      have s1 : i = 0 → ∀ S : ByteArray, S.data.toList = writeA ⟨nm.data.toList, lo.data.toList, dm.data.toList⟩ → Hid (WrAt ys (i + 1) (O ++ S)) := s1
      have s2 : i ≠ 0 → ∀ S : ByteArray, S.data.toList = writeA ⟨nm.data.toList, lo.data.toList, dm.data.toList⟩ → Hid (WrAt ys (i + 1) (O ++ ⟨#[44, 32]⟩ ++ S)) := s2
      have HW := Lib.hid hw
      have S1 := Lib.hid s1
      have S2 := Lib.hid s2
      have hlw : ∀ d, dotted lo.data.toList = d → locW lo.data.toList = if d = true then lo.data.toList else 34 :: (lo.data.toList.flatMap escA ++ [34]) := fun d hd => by rw [← hd]; rfl
      have HLW := Lib.hid hlw
      clear hw s1 s2 hlw hQ2
      generalize hdt : dotted lo.data.toList = dt at *
      have hlw2 := HLW.out dt rfl
      clear hdt HLW
      by_cases h0 : nm.size = 0
      · have q1 := nilS h0
        by_cases hi0 : i = 0
        · have d1 : decide ((i : Int) > 0) = false := decide_eq_false (by omega)
          have d1' : decide ((0 : Int) < (i : Int)) = false := decide_eq_false (by omega)
          have d1'' : decide (0 < i) = false := decide_eq_false (by omega)
          have HXs := fun SP hSP => S1.out hi0 _ ((HW.out SP hSP).1 h0)
          clear S1 S2 HW h0 hi0
          cases dt with
          | true =>
            have HX := HXs lo (by rw [hlw2, if_pos rfl])
            clear HXs hlw2
            go_wp2_with (first
              | (go_at_call 39; (with_reducible refine (HDt.out _).mono ?_); rintro e w' ⟨rfl, rfl⟩)
              | (go_at_call 44; go_loud ((with_reducible refine (HQ.out _).mono ?_); rintro e w5 ⟨rfl, hb5⟩; have tb := tb.trans (hb5.mono tb.size))))
            go_roundg (ys.length - (i + 1))
            case rel => exact ⟨i + 1, _, by first | rfl | trivial, by go_num, by omega, tb, by (simp only [ByteArray.size_append]; have l1 : (⟨#[64]⟩ : ByteArray).size = 1 := rfl; have l2 : (⟨#[34]⟩ : ByteArray).size = 1 := rfl; have l3 : (⟨#[62]⟩ : ByteArray).size = 1 := rfl; have l4 : (⟨#[32, 60]⟩ : ByteArray).size = 2 := rfl; have l5 : (⟨#[44, 32]⟩ : ByteArray).size = 2 := rfl; omega), HX⟩
            case measure => omega
          | false =>
            have hes := Lib.hid (es_zero lo)
            go_wp2_with (go_at_call 39; (with_reducible refine (HDt.out _).mono ?_); rintro e w' ⟨rfl, rfl⟩)
            go_loopg [5, 6, 7] lo.size (fun g sv kv cv wy => ∃ (k : Nat) (S : ByteArray), sv = .string S ∧ kv = .int .i64 k ∧ k + g = lo.size ∧ wr = wy ∧ Hid (EsAt lo k S))
            case atStart => exact ⟨0, ⟨#[34]⟩, by first | rfl | trivial, by first | rfl | trivial, by omega, rfl, hes⟩
            case round =>
              clear hes
              obtain ⟨k, S, rfl, rfl, hkg, rfl, hes⟩ := hrel
              have hSz := es_size hes
              by_cases hkl : k < lo.size
              · have t0 : (0 : Int) ≤ (k : Int) := by omega
                have t1 : (k : Int) < (lo.size : Int) := by omega
                have t2 : (k : Int) + 1 ≤ (lo.size : Int) := by omega
                have t3 : (k : Int) ≤ (k : Int) + 1 := by omega
                have t4 : ((k : Int) + 1).toNat = k + 1 := by omega
                have hE := one_ext hkl
                obtain ⟨f1, f2⟩ := es_step hes hkl hE
                have hEz : (lo.extract k (k + 1)).size = 1 := by have := congrArg List.length hE; rw [dataL] at this; exact this
                have hEl : ∀ b : UInt8, ((lo.extract k (k + 1)).toList == [b]) = (lo[k] == b) := fun b => by
                  rw [Lib.toList_data, hE]
                  by_cases h : lo[k] = b
                  · rw [h]; simp
                  · rw [beq_eq_false_iff_ne.2 h, beq_eq_false_iff_ne.2 (fun e => h (by injection e))]
                have e34 := hEl 34
                have e92 := hEl 92
                clear hE hEl hes
                by_cases g1 : lo[k] = 34
                · rw [beq_iff_eq.2 g1] at e34
                  have hd := f1 (.inl g1)
                  clear f1 f2 g1 e92
                  go_wp2
                  go_roundg (lo.size - (k + 1))
                  case rel => exact ⟨k + 1, _, by first | rfl | trivial, by go_num, by omega, rfl, hd⟩
                  case measure => omega
                · rw [beq_eq_false_iff_ne.2 g1] at e34
                  by_cases g2 : lo[k] = 92
                  · rw [beq_iff_eq.2 g2] at e92
                    have hd := f1 (.inr g2)
                    clear f1 f2 g1 g2
                    go_wp2
                    go_roundg (lo.size - (k + 1))
                    case rel => exact ⟨k + 1, _, by first | rfl | trivial, by go_num, by omega, rfl, hd⟩
                    case measure => omega
                  · rw [beq_eq_false_iff_ne.2 g2] at e92
                    have hd := f2 (fun h => by rcases h with h | h; exact g1 h; exact g2 h)
                    clear f1 f2 g1 g2
                    go_wp2
                    go_roundg (lo.size - (k + 1))
                    case rel => exact ⟨k + 1, _, by first | rfl | trivial, by go_num, by omega, rfl, hd⟩
                    case measure => omega
              · have hend := es_end hes hkl
                have HX := HXs (S ++ ⟨#[34]⟩) (by rw [hend, hlw2, if_neg (by decide)])
                clear hend hes HXs hlw2
                go_wp2_with (go_at_call 44; go_loud ((with_reducible refine (HQ.out _).mono ?_); rintro e w5 ⟨rfl, hb5⟩; have tb := tb.trans (hb5.mono tb.size)))
                go_roundg (ys.length - (i + 1))
                case rel => exact ⟨i + 1, _, by first | rfl | trivial, by go_num, by omega, tb, by (simp only [ByteArray.size_append]; have l1 : (⟨#[64]⟩ : ByteArray).size = 1 := rfl; have l2 : (⟨#[34]⟩ : ByteArray).size = 1 := rfl; have l3 : (⟨#[62]⟩ : ByteArray).size = 1 := rfl; have l4 : (⟨#[32, 60]⟩ : ByteArray).size = 2 := rfl; have l5 : (⟨#[44, 32]⟩ : ByteArray).size = 2 := rfl; omega), HX⟩
                case measure => omega
        · have d1 : decide ((i : Int) > 0) = true := decide_eq_true (by omega)
          have d1' : decide ((0 : Int) < (i : Int)) = true := decide_eq_true (by omega)
          have d1'' : decide (0 < i) = true := decide_eq_true (by omega)
          have HXs := fun SP hSP => S2.out hi0 _ ((HW.out SP hSP).1 h0)
          clear S1 S2 HW h0 hi0
          cases dt with
          | true =>
            have HX := HXs lo (by rw [hlw2, if_pos rfl])
            clear HXs hlw2
            go_wp2_with (first
              | (go_at_call 39; (with_reducible refine (HDt.out _).mono ?_); rintro e w' ⟨rfl, rfl⟩)
              | (go_at_call 44; go_loud ((with_reducible refine (HQ.out _).mono ?_); rintro e w5 ⟨rfl, hb5⟩; have tb := tb.trans (hb5.mono tb.size))))
            go_roundg (ys.length - (i + 1))
            case rel => exact ⟨i + 1, _, by first | rfl | trivial, by go_num, by omega, tb, by (simp only [ByteArray.size_append]; have l1 : (⟨#[64]⟩ : ByteArray).size = 1 := rfl; have l2 : (⟨#[34]⟩ : ByteArray).size = 1 := rfl; have l3 : (⟨#[62]⟩ : ByteArray).size = 1 := rfl; have l4 : (⟨#[32, 60]⟩ : ByteArray).size = 2 := rfl; have l5 : (⟨#[44, 32]⟩ : ByteArray).size = 2 := rfl; omega), HX⟩
            case measure => omega
          | false =>
            have hes := Lib.hid (es_zero lo)
            go_wp2_with (go_at_call 39; (with_reducible refine (HDt.out _).mono ?_); rintro e w' ⟨rfl, rfl⟩)
            go_loopg [5, 6, 7] lo.size (fun g sv kv cv wy => ∃ (k : Nat) (S : ByteArray), sv = .string S ∧ kv = .int .i64 k ∧ k + g = lo.size ∧ wr = wy ∧ Hid (EsAt lo k S))
            case atStart => exact ⟨0, ⟨#[34]⟩, by first | rfl | trivial, by first | rfl | trivial, by omega, rfl, hes⟩
            case round =>
              clear hes
              obtain ⟨k, S, rfl, rfl, hkg, rfl, hes⟩ := hrel
              have hSz := es_size hes
              by_cases hkl : k < lo.size
              · have t0 : (0 : Int) ≤ (k : Int) := by omega
                have t1 : (k : Int) < (lo.size : Int) := by omega
                have t2 : (k : Int) + 1 ≤ (lo.size : Int) := by omega
                have t3 : (k : Int) ≤ (k : Int) + 1 := by omega
                have t4 : ((k : Int) + 1).toNat = k + 1 := by omega
                have hE := one_ext hkl
                obtain ⟨f1, f2⟩ := es_step hes hkl hE
                have hEz : (lo.extract k (k + 1)).size = 1 := by have := congrArg List.length hE; rw [dataL] at this; exact this
                have hEl : ∀ b : UInt8, ((lo.extract k (k + 1)).toList == [b]) = (lo[k] == b) := fun b => by
                  rw [Lib.toList_data, hE]
                  by_cases h : lo[k] = b
                  · rw [h]; simp
                  · rw [beq_eq_false_iff_ne.2 h, beq_eq_false_iff_ne.2 (fun e => h (by injection e))]
                have e34 := hEl 34
                have e92 := hEl 92
                clear hE hEl hes
                by_cases g1 : lo[k] = 34
                · rw [beq_iff_eq.2 g1] at e34
                  have hd := f1 (.inl g1)
                  clear f1 f2 g1 e92
                  go_wp2
                  go_roundg (lo.size - (k + 1))
                  case rel => exact ⟨k + 1, _, by first | rfl | trivial, by go_num, by omega, rfl, hd⟩
                  case measure => omega
                · rw [beq_eq_false_iff_ne.2 g1] at e34
                  by_cases g2 : lo[k] = 92
                  · rw [beq_iff_eq.2 g2] at e92
                    have hd := f1 (.inr g2)
                    clear f1 f2 g1 g2
                    go_wp2
                    go_roundg (lo.size - (k + 1))
                    case rel => exact ⟨k + 1, _, by first | rfl | trivial, by go_num, by omega, rfl, hd⟩
                    case measure => omega
                  · rw [beq_eq_false_iff_ne.2 g2] at e92
                    have hd := f2 (fun h => by rcases h with h | h; exact g1 h; exact g2 h)
                    clear f1 f2 g1 g2
                    go_wp2
                    go_roundg (lo.size - (k + 1))
                    case rel => exact ⟨k + 1, _, by first | rfl | trivial, by go_num, by omega, rfl, hd⟩
                    case measure => omega
              · have hend := es_end hes hkl
                have HX := HXs (S ++ ⟨#[34]⟩) (by rw [hend, hlw2, if_neg (by decide)])
                clear hend hes HXs hlw2
                go_wp2_with (go_at_call 44; go_loud ((with_reducible refine (HQ.out _).mono ?_); rintro e w5 ⟨rfl, hb5⟩; have tb := tb.trans (hb5.mono tb.size)))
                go_roundg (ys.length - (i + 1))
                case rel => exact ⟨i + 1, _, by first | rfl | trivial, by go_num, by omega, tb, by (simp only [ByteArray.size_append]; have l1 : (⟨#[64]⟩ : ByteArray).size = 1 := rfl; have l2 : (⟨#[34]⟩ : ByteArray).size = 1 := rfl; have l3 : (⟨#[62]⟩ : ByteArray).size = 1 := rfl; have l4 : (⟨#[32, 60]⟩ : ByteArray).size = 2 := rfl; have l5 : (⟨#[44, 32]⟩ : ByteArray).size = 2 := rfl; omega), HX⟩
                case measure => omega
      · have q1 := neS (S := nm) (by omega)
        by_cases hi0 : i = 0
        · have d1 : decide ((i : Int) > 0) = false := decide_eq_false (by omega)
          have d1' : decide ((0 : Int) < (i : Int)) = false := decide_eq_false (by omega)
          have d1'' : decide (0 < i) = false := decide_eq_false (by omega)
          have HXs := fun SP hSP => S1.out hi0 _ ((HW.out SP hSP).2 h0)
          clear S1 S2 HW h0 hi0
          cases dt with
          | true =>
            have HX := HXs lo (by rw [hlw2, if_pos rfl])
            clear HXs hlw2
            go_wp2_with (first
              | (go_at_call 39; (with_reducible refine (HDt.out _).mono ?_); rintro e w' ⟨rfl, rfl⟩)
              | (go_at_call 44; go_loud ((with_reducible refine (HQ.out _).mono ?_); rintro e w5 ⟨rfl, hb5⟩; have tb := tb.trans (hb5.mono tb.size))))
            go_roundg (ys.length - (i + 1))
            case rel => exact ⟨i + 1, _, by first | rfl | trivial, by go_num, by omega, tb, by (simp only [ByteArray.size_append]; have l1 : (⟨#[64]⟩ : ByteArray).size = 1 := rfl; have l2 : (⟨#[34]⟩ : ByteArray).size = 1 := rfl; have l3 : (⟨#[62]⟩ : ByteArray).size = 1 := rfl; have l4 : (⟨#[32, 60]⟩ : ByteArray).size = 2 := rfl; have l5 : (⟨#[44, 32]⟩ : ByteArray).size = 2 := rfl; omega), HX⟩
            case measure => omega
          | false =>
            have hes := Lib.hid (es_zero lo)
            go_wp2_with (go_at_call 39; (with_reducible refine (HDt.out _).mono ?_); rintro e w' ⟨rfl, rfl⟩)
            go_loopg [5, 6, 7] lo.size (fun g sv kv cv wy => ∃ (k : Nat) (S : ByteArray), sv = .string S ∧ kv = .int .i64 k ∧ k + g = lo.size ∧ wr = wy ∧ Hid (EsAt lo k S))
            case atStart => exact ⟨0, ⟨#[34]⟩, by first | rfl | trivial, by first | rfl | trivial, by omega, rfl, hes⟩
            case round =>
              clear hes
              obtain ⟨k, S, rfl, rfl, hkg, rfl, hes⟩ := hrel
              have hSz := es_size hes
              by_cases hkl : k < lo.size
              · have t0 : (0 : Int) ≤ (k : Int) := by omega
                have t1 : (k : Int) < (lo.size : Int) := by omega
                have t2 : (k : Int) + 1 ≤ (lo.size : Int) := by omega
                have t3 : (k : Int) ≤ (k : Int) + 1 := by omega
                have t4 : ((k : Int) + 1).toNat = k + 1 := by omega
                have hE := one_ext hkl
                obtain ⟨f1, f2⟩ := es_step hes hkl hE
                have hEz : (lo.extract k (k + 1)).size = 1 := by have := congrArg List.length hE; rw [dataL] at this; exact this
                have hEl : ∀ b : UInt8, ((lo.extract k (k + 1)).toList == [b]) = (lo[k] == b) := fun b => by
                  rw [Lib.toList_data, hE]
                  by_cases h : lo[k] = b
                  · rw [h]; simp
                  · rw [beq_eq_false_iff_ne.2 h, beq_eq_false_iff_ne.2 (fun e => h (by injection e))]
                have e34 := hEl 34
                have e92 := hEl 92
                clear hE hEl hes
                by_cases g1 : lo[k] = 34
                · rw [beq_iff_eq.2 g1] at e34
                  have hd := f1 (.inl g1)
                  clear f1 f2 g1 e92
                  go_wp2
                  go_roundg (lo.size - (k + 1))
                  case rel => exact ⟨k + 1, _, by first | rfl | trivial, by go_num, by omega, rfl, hd⟩
                  case measure => omega
                · rw [beq_eq_false_iff_ne.2 g1] at e34
                  by_cases g2 : lo[k] = 92
                  · rw [beq_iff_eq.2 g2] at e92
                    have hd := f1 (.inr g2)
                    clear f1 f2 g1 g2
                    go_wp2
                    go_roundg (lo.size - (k + 1))
                    case rel => exact ⟨k + 1, _, by first | rfl | trivial, by go_num, by omega, rfl, hd⟩
                    case measure => omega
                  · rw [beq_eq_false_iff_ne.2 g2] at e92
                    have hd := f2 (fun h => by rcases h with h | h; exact g1 h; exact g2 h)
                    clear f1 f2 g1 g2
                    go_wp2
                    go_roundg (lo.size - (k + 1))
                    case rel => exact ⟨k + 1, _, by first | rfl | trivial, by go_num, by omega, rfl, hd⟩
                    case measure => omega
              · have hend := es_end hes hkl
                have HX := HXs (S ++ ⟨#[34]⟩) (by rw [hend, hlw2, if_neg (by decide)])
                clear hend hes HXs hlw2
                go_wp2_with (go_at_call 44; go_loud ((with_reducible refine (HQ.out _).mono ?_); rintro e w5 ⟨rfl, hb5⟩; have tb := tb.trans (hb5.mono tb.size)))
                go_roundg (ys.length - (i + 1))
                case rel => exact ⟨i + 1, _, by first | rfl | trivial, by go_num, by omega, tb, by (simp only [ByteArray.size_append]; have l1 : (⟨#[64]⟩ : ByteArray).size = 1 := rfl; have l2 : (⟨#[34]⟩ : ByteArray).size = 1 := rfl; have l3 : (⟨#[62]⟩ : ByteArray).size = 1 := rfl; have l4 : (⟨#[32, 60]⟩ : ByteArray).size = 2 := rfl; have l5 : (⟨#[44, 32]⟩ : ByteArray).size = 2 := rfl; omega), HX⟩
                case measure => omega
        · have d1 : decide ((i : Int) > 0) = true := decide_eq_true (by omega)
          have d1' : decide ((0 : Int) < (i : Int)) = true := decide_eq_true (by omega)
          have d1'' : decide (0 < i) = true := decide_eq_true (by omega)
          have HXs := fun SP hSP => S2.out hi0 _ ((HW.out SP hSP).2 h0)
          clear S1 S2 HW h0 hi0
          cases dt with
          | true =>
            have HX := HXs lo (by rw [hlw2, if_pos rfl])
            clear HXs hlw2
            go_wp2_with (first
              | (go_at_call 39; (with_reducible refine (HDt.out _).mono ?_); rintro e w' ⟨rfl, rfl⟩)
              | (go_at_call 44; go_loud ((with_reducible refine (HQ.out _).mono ?_); rintro e w5 ⟨rfl, hb5⟩; have tb := tb.trans (hb5.mono tb.size))))
            go_roundg (ys.length - (i + 1))
            case rel => exact ⟨i + 1, _, by first | rfl | trivial, by go_num, by omega, tb, by (simp only [ByteArray.size_append]; have l1 : (⟨#[64]⟩ : ByteArray).size = 1 := rfl; have l2 : (⟨#[34]⟩ : ByteArray).size = 1 := rfl; have l3 : (⟨#[62]⟩ : ByteArray).size = 1 := rfl; have l4 : (⟨#[32, 60]⟩ : ByteArray).size = 2 := rfl; have l5 : (⟨#[44, 32]⟩ : ByteArray).size = 2 := rfl; omega), HX⟩
            case measure => omega
          | false =>
            have hes := Lib.hid (es_zero lo)
            go_wp2_with (go_at_call 39; (with_reducible refine (HDt.out _).mono ?_); rintro e w' ⟨rfl, rfl⟩)
            go_loopg [5, 6, 7] lo.size (fun g sv kv cv wy => ∃ (k : Nat) (S : ByteArray), sv = .string S ∧ kv = .int .i64 k ∧ k + g = lo.size ∧ wr = wy ∧ Hid (EsAt lo k S))
            case atStart => exact ⟨0, ⟨#[34]⟩, by first | rfl | trivial, by first | rfl | trivial, by omega, rfl, hes⟩
            case round =>
              clear hes
              obtain ⟨k, S, rfl, rfl, hkg, rfl, hes⟩ := hrel
              have hSz := es_size hes
              by_cases hkl : k < lo.size
              · have t0 : (0 : Int) ≤ (k : Int) := by omega
                have t1 : (k : Int) < (lo.size : Int) := by omega
                have t2 : (k : Int) + 1 ≤ (lo.size : Int) := by omega
                have t3 : (k : Int) ≤ (k : Int) + 1 := by omega
                have t4 : ((k : Int) + 1).toNat = k + 1 := by omega
                have hE := one_ext hkl
                obtain ⟨f1, f2⟩ := es_step hes hkl hE
                have hEz : (lo.extract k (k + 1)).size = 1 := by have := congrArg List.length hE; rw [dataL] at this; exact this
                have hEl : ∀ b : UInt8, ((lo.extract k (k + 1)).toList == [b]) = (lo[k] == b) := fun b => by
                  rw [Lib.toList_data, hE]
                  by_cases h : lo[k] = b
                  · rw [h]; simp
                  · rw [beq_eq_false_iff_ne.2 h, beq_eq_false_iff_ne.2 (fun e => h (by injection e))]
                have e34 := hEl 34
                have e92 := hEl 92
                clear hE hEl hes
                by_cases g1 : lo[k] = 34
                · rw [beq_iff_eq.2 g1] at e34
                  have hd := f1 (.inl g1)
                  clear f1 f2 g1 e92
                  go_wp2
                  go_roundg (lo.size - (k + 1))
                  case rel => exact ⟨k + 1, _, by first | rfl | trivial, by go_num, by omega, rfl, hd⟩
                  case measure => omega
                · rw [beq_eq_false_iff_ne.2 g1] at e34
                  by_cases g2 : lo[k] = 92
                  · rw [beq_iff_eq.2 g2] at e92
                    have hd := f1 (.inr g2)
                    clear f1 f2 g1 g2
                    go_wp2
                    go_roundg (lo.size - (k + 1))
                    case rel => exact ⟨k + 1, _, by first | rfl | trivial, by go_num, by omega, rfl, hd⟩
                    case measure => omega
                  · rw [beq_eq_false_iff_ne.2 g2] at e92
                    have hd := f2 (fun h => by rcases h with h | h; exact g1 h; exact g2 h)
                    clear f1 f2 g1 g2
                    go_wp2
                    go_roundg (lo.size - (k + 1))
                    case rel => exact ⟨k + 1, _, by first | rfl | trivial, by go_num, by omega, rfl, hd⟩
                    case measure => omega
              · have hend := es_end hes hkl
                have HX := HXs (S ++ ⟨#[34]⟩) (by rw [hend, hlw2, if_neg (by decide)])
                clear hend hes HXs hlw2
                go_wp2_with (go_at_call 44; go_loud ((with_reducible refine (HQ.out _).mono ?_); rintro e w5 ⟨rfl, hb5⟩; have tb := tb.trans (hb5.mono tb.size)))
                go_roundg (ys.length - (i + 1))
                case rel => exact ⟨i + 1, _, by first | rfl | trivial, by go_num, by omega, tb, by (simp only [ByteArray.size_append]; have l1 : (⟨#[64]⟩ : ByteArray).size = 1 := rfl; have l2 : (⟨#[34]⟩ : ByteArray).size = 1 := rfl; have l3 : (⟨#[62]⟩ : ByteArray).size = 1 := rfl; have l4 : (⟨#[32, 60]⟩ : ByteArray).size = 2 := rfl; have l5 : (⟨#[44, 32]⟩ : ByteArray).size = 2 := rfl; omega), HX⟩
                case measure => omega
    · have e := hrel.out
      unfold WrAt at e
      rw [List.take_of_length_le (by omega)] at e
      have e2 : O.data.toList = writeLst (ys.map AdB.lst) := by rw [e]; unfold writeLst; rw [List.map_map]; rfl
      have hpost : Hid (StrIs (writeLst (ys.map AdB.lst)) w (.returned (.string O)) wr) := ⟨by rw [mk_of e2], tb⟩
      clear hrel e e2
      go_wp2
      go_ret
      exact hpost.out
end Go.Proofs.YtilccofdphohiaaGreatDoor
