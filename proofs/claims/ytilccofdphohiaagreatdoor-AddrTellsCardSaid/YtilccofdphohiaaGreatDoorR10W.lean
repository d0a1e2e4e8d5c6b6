/- Walks: the reference of tokens: blank, special, atom, end. Walks: the reference of tokens: end, front. Walks: the reference of tokens: Scan, Join, Bare. Walks: the reference of tokens: Value, Quote. Walks: the reference of tokens: Quote. -/
import Derived.Test.YtilccofdphohiaaGreatDoorR10P
import Derived.Test.YtilccofdphohiaaGreatDoorShelf
import Derived.Test.YtilccofdphohiaaGreatDoorRows
import Derived.Test.YtilccofdphohiaaGreatDoorTk2
import Derived.Test.YtilccofdphohiaaGreatDoorTk3
import Derived.Test.YtilccofdphohiaaGreatDoorStrK
import Derived.Test.YtilccofdphohiaaGreatDoorTk5
import Derived.Test.YtilccofdphohiaaGreatDoorTk6
namespace Go.Proofs.YtilccofdphohiaaGreatDoor
open Go.RowKit Pk Tk Su

set_option maxRecDepth 100000 in
theorem rblank_any (c : UInt8) (w : World) : Calls Tryz.prog 101 #[.int .u8 c.toNat] w fun e w' => e = .returned (.bool (Su.blk c)) ∧ w = w' := by
  rw [blk_bool c]
  cases h1 : ((c.toNat : Int) == 9)
  · cases h2 : ((c.toNat : Int) == 10)
    · cases h3 : ((c.toNat : Int) == 13)
      · cases h4 : ((c.toNat : Int) == 32)
        all_goals
          go_enter Tryz.func101, Tryz.ntmps101
          go_wp2
          go_ret
          exact ⟨rfl, rfl⟩
      · go_enter Tryz.func101, Tryz.ntmps101
        go_wp2
        go_ret
        exact ⟨rfl, rfl⟩
    · go_enter Tryz.func101, Tryz.ntmps101
      go_wp2
      go_ret
      exact ⟨rfl, rfl⟩
  · go_enter Tryz.func101, Tryz.ntmps101
    go_wp2
    go_ret
    exact ⟨rfl, rfl⟩
/-- none of the first k specials is c, or the answer is yes -/
def SpcIs (c : UInt8) (k : Nat) : Prop := (specL.drop k).contains c = spec c
theorem spc_step {c : UInt8} {k : Nat} (h : SpcIs c k) (hk : k < specL.length) : (specL[k] = c → spec c = true) ∧ (specL[k] ≠ c → SpcIs c (k + 1)) := by
  unfold SpcIs at *
  rw [List.drop_eq_getElem_cons hk, List.contains_cons] at h
  refine ⟨fun h1 => ?_, fun h1 => ?_⟩
  · rw [← h, beq_iff_eq.2 h1.symm]; rfl
  · rw [beq_eq_false_iff_ne.2 (fun e => h1 e.symm), Bool.false_or] at h; exact h
theorem spc_end {c : UInt8} {k : Nat} (h : SpcIs c k) (hk : ¬ k < 13) : spec c = false := by
  unfold SpcIs at h
  rw [List.drop_eq_nil_of_le (show specL.length ≤ k by show 13 ≤ k; omega)] at h
  rw [← h]; rfl
theorem specS_at (k : Nat) (h : k < specL.length) : (⟨#[40, 41, 60, 62, 91, 93, 58, 59, 64, 92, 44, 46, 34]⟩ : ByteArray)[k]'h = specL[k] := rfl
set_option maxHeartbeats 1000000 in
set_option maxRecDepth 100000 in
theorem rspec_any (c : UInt8) (w : World) : Calls Tryz.prog 99 #[.int .u8 c.toNat] w fun e w' => e = .returned (.bool (spec c)) ∧ w = w' := by
  go_enter Tryz.func99, Tryz.ntmps99
  go_wp2
  go_loop [3] (fun iv => ∃ k : Nat, k ≤ 13 ∧ iv = .int .i64 k ∧ Hid (SpcIs c k)) (fun iv => 13 - (intOf iv).toNat)
  case atStart => exact ⟨0, by omega, by first | rfl | trivial, rfl⟩
  case round =>
    obtain ⟨k, hk, rfl, hrel⟩ := hrel
    by_cases hlt : k < 13
    · obtain ⟨s1, s2⟩ := spc_step hrel.out hlt
      have he := specS_at k hlt
      obtain ⟨d, hd⟩ : ∃ d, specL[k]'hlt = d := ⟨_, rfl⟩
      rw [hd] at he s1 s2
      clear hd
      by_cases hc : d = c
      · have q : ((d.toNat : Int) == (c.toNat : Int)) = true := u8y hc
        have H := Lib.hid (s1 hc)
        clear s1 s2 hc hrel
        go_wp2
        go_ret
        exact ⟨by rw [H.out]; rfl, rfl⟩
      · have q : ((d.toNat : Int) == (c.toNat : Int)) = false := u8n hc
        have H := Lib.hid (s2 hc)
        clear s1 s2 hc hrel
        go_wp2
        go_round
        case rel => exact ⟨k + 1, by omega, by go_num, H⟩
        case measure => simp [intOf]; omega
    · have H := Lib.hid (spc_end hrel.out hlt)
      obtain rfl : k = 13 := by omega
      clear hrel
      go_wp2
      go_ret
      exact ⟨by rw [H.out]; rfl, rfl⟩
set_option maxRecDepth 100000 in
theorem ratom_any (c : UInt8) (w : World) : Calls Tryz.prog 72 #[.int .u8 c.toNat] w fun e w' => e = .returned (.bool (atm c)) ∧ w = w' := by
  have hI := rspec_any c
  have ha : atm c = (decide (32 < c.toNat) && !(c == 127) && !(spec c)) := rfl
  generalize spec c = b at hI ha
  have HI := Lib.hid hI
  have hc := c.toNat_lt
  clear hI
  by_cases h1 : 32 < c.toNat
  · by_cases h2 : c = 127
    · have e : atm c = false := by rw [ha, h2]; simp
      have q : ((c.toNat : Int) != 127) = false := by rw [h2]; rfl
      clear ha h2
      rw [e]
      clear e
      go_enter Tryz.func72, Tryz.ntmps72
      go_wp2_with (go_at_call 99; refine (HI.out _).mono ?_; rintro e w' ⟨rfl, rfl⟩)
      go_ret
      exact ⟨rfl, rfl⟩
    · have e : atm c = !b := by rw [ha, decide_eq_true h1, beq_eq_false_iff_ne.2 h2]; simp
      have q : ((c.toNat : Int) != 127) = true := by
        rw [bne_iff_ne]; intro e; apply h2; rw [← UInt8.toNat_inj]; exact_mod_cast e
      clear ha h2
      rw [e]
      clear e
      go_enter Tryz.func72, Tryz.ntmps72
      go_wp2_with (go_at_call 99; refine (HI.out _).mono ?_; rintro e w' ⟨rfl, rfl⟩)
      go_ret
      exact ⟨rfl, rfl⟩
  · have e : atm c = false := by rw [ha, decide_eq_false h1]; rfl
    clear ha
    rw [e]
    clear e
    go_enter Tryz.func72, Tryz.ntmps72
    go_wp2_with (go_at_call 99; refine (HI.out _).mono ?_; rintro e w' ⟨rfl, rfl⟩)
    go_ret
    exact ⟨rfl, rfl⟩
def endV (close : UInt8) (s : ByteArray) : Nat := match cloX close s with
  | some m => m
  | none => 0
def EndRet (close : UInt8) (s : ByteArray) (w : World) (e : Ending) (w' : World) : Prop := e = .returned (.int .i64 (endV close s : Nat)) ∧ w = w'
theorem end_yes {close : UInt8} {s : ByteArray} {k : Nat} {w : World} (h : cloX close s = some (k + 1)) {n : Int} (hn : n = (k : Int) + 1) : EndRet close s w (.returned (.int .i64 n)) w := by
  unfold EndRet endV; rw [h]; subst hn; exact ⟨rfl, rfl⟩
theorem end_no {close : UInt8} {s : ByteArray} {w : World} (h : cloX close s = none) : EndRet close s w (.returned (.int .i64 0)) w := by
  unfold EndRet endV; rw [h]; exact ⟨rfl, rfl⟩
/-- by what a token opens, what closes it -/
def pairs (o close : UInt8) : Prop := (o = 40 ∧ close = 41) ∨ (o = 34 ∧ close = 34) ∨ (o = 91 ∧ close = 93)
end Go.Proofs.YtilccofdphohiaaGreatDoor
namespace Go.Proofs.YtilccofdphohiaaGreatDoor
open Go.RowKit Pk Tk Su

theorem k40 {a : UInt8} (h : a = 40) : ((a.toNat : Int) == 40) = true ∧ ((a.toNat : Int) == 34) = false ∧ ((a.toNat : Int) == 91) = false := by subst h; exact ⟨by decide, by decide, by decide⟩
theorem k34 {a : UInt8} (h : a = 34) : ((a.toNat : Int) == 40) = false ∧ ((a.toNat : Int) == 34) = true ∧ ((a.toNat : Int) == 91) = false := by subst h; exact ⟨by decide, by decide, by decide⟩
theorem k91 {a : UInt8} (h : a = 91) : ((a.toNat : Int) == 40) = false ∧ ((a.toNat : Int) == 34) = false ∧ ((a.toNat : Int) == 91) = true := by subst h; exact ⟨by decide, by decide, by decide⟩
theorem kno {a : UInt8} (h1 : a ≠ 40) (h2 : a ≠ 34) (h3 : a ≠ 91) : ((a.toNat : Int) == 40) = false ∧ ((a.toNat : Int) == 34) = false ∧ ((a.toNat : Int) == 91) = false :=
  ⟨(show ((a.toNat : Int) == 40) = decide (a = 40) from u8k 40 (by decide)).trans (decide_eq_false h1), (show ((a.toNat : Int) == 34) = decide (a = 34) from u8k 34 (by decide)).trans (decide_eq_false h2), (show ((a.toNat : Int) == 91) = decide (a = 91) from u8k 91 (by decide)).trans (decide_eq_false h3)⟩
theorem ext_all (s : ByteArray) : s.extract 0 s.size = s := by
  rw [ext_to, List.take_of_length_le (show s.data.toList.length ≤ s.size from Nat.le_refl _)]
set_option maxHeartbeats 4000000 in
set_option maxRecDepth 100000 in
theorem end40 (s : ByteArray) (w : World) (h0 : 0 < s.size) (hs : s.size ≤ 100000000) (ho : s[0] = 40) : Calls Tryz.prog 102 #[.string s] w (EndRet 41 s w) := by
  obtain ⟨o1, o2, o3⟩ := k40 ho
  clear ho
  go_enter Tryz.func102, Tryz.ntmps102
  go_wp2
  go_loop [3, 4] (fun dv iv => ∃ (k d : Nat), iv = .int .i64 k ∧ dv = .int .i64 ((d : Int) - 1) ∧ 1 ≤ k ∧ k ≤ s.size + 1 ∧ 1 ≤ d ∧ d ≤ k ∧ Hid (CloIs 41 d k s)) (fun _ iv => s.size + 1 - (intOf iv).toNat)
  case atStart => exact ⟨1, 1, rfl, by first | rfl | trivial, by omega, by omega, by omega, by omega, rfl⟩
  case round =>
    obtain ⟨k, d, rfl, rfl, hk1, hk, hd1, hdk, hrel⟩ := hrel
    by_cases hlt : k < s.size
    · obtain ⟨s1, s2, s3, s4, s5⟩ := clo_step hrel.out hlt
      have qa : ((s[k].toNat : Int) == 92) = decide (s[k] = 92) := u8k 92 (by decide)
      have qb : ((s[k].toNat : Int) == 41) = decide (s[k] = 41) := u8k 41 (by decide)
      have qc : ((s[k].toNat : Int) == 40) = decide (s[k] = 40) := u8k 40 (by decide)
      by_cases h92 : s[k] = 92
      · have H := Lib.hid (s1 h92)
        rw [decide_eq_true h92] at qa
        clear s1 s2 s3 s4 s5 hrel qb qc h92
        go_wp2
        go_round
        case rel => exact ⟨k + 1 + 1, d, by go_num, rfl, by omega, by omega, by omega, by omega, H⟩
        case measure => simp [intOf]; omega
      · rw [decide_eq_false h92] at qa
        by_cases h41 : s[k] = 41
        · rw [decide_eq_true h41] at qb
          rw [decide_eq_false (by rw [h41]; decide)] at qc
          by_cases h1 : d = 1
          · have H := Lib.hid (end_yes (w := w) (s2 h92 h41 h1) rfl)
            have q0 : ((d : Int) - 1 == 0) = true := beq_iff_eq.2 (by omega)
            clear s1 s2 s3 s4 s5 hrel h92 h41 h1
            go_wp2
            go_ret
            exact H.out
          · have H := Lib.hid (s3 h92 h41 h1)
            have q0 : ((d : Int) - 1 == 0) = false := beq_eq_false_iff_ne.2 (by omega)
            clear s1 s2 s3 s4 s5 hrel h92 h41
            go_wp2
            go_round
            case rel => exact ⟨k + 1, d - 1, by go_num, by first | go_num | (congr 1; omega), by omega, by omega, by omega, by omega, H⟩
            case measure => simp [intOf]; omega
        · rw [decide_eq_false h41] at qb
          by_cases h40 : s[k] = 40
          · rw [decide_eq_true h40] at qc
            have H := Lib.hid (s4 h92 h41 h40 rfl)
            clear s1 s2 s3 s4 s5 hrel h92 h41 h40
            go_wp2
            go_round
            case rel => exact ⟨k + 1, d + 1, by go_num, by first | go_num | (congr 1; omega) | (simp; done), by omega, by omega, by omega, by omega, H⟩
            case measure => simp [intOf]; omega
          · rw [decide_eq_false h40] at qc
            have H := Lib.hid (s5 h92 h41 (.inl h40))
            clear s1 s2 s3 s4 s5 hrel h92 h41 h40
            go_wp2
            go_round
            case rel => exact ⟨k + 1, d, by go_num, rfl, by omega, by omega, by omega, by omega, H⟩
            case measure => simp [intOf]; omega
    · have H := Lib.hid (end_no (w := w) (clo_end hrel.out hlt))
      clear hrel
      go_wp2
      go_ret
      exact H.out
set_option maxHeartbeats 4000000 in
set_option maxRecDepth 100000 in
theorem end34 (s : ByteArray) (w : World) (h0 : 0 < s.size) (hs : s.size ≤ 100000000) (ho : s[0] = 34) : Calls Tryz.prog 102 #[.string s] w (EndRet 34 s w) := by
  obtain ⟨o1, o2, o3⟩ := k34 ho
  clear ho
  go_enter Tryz.func102, Tryz.ntmps102
  go_wp2
  go_loop [3, 4] (fun dv iv => ∃ k : Nat, iv = .int .i64 k ∧ dv = .int .i64 0 ∧ 1 ≤ k ∧ k ≤ s.size + 1 ∧ Hid (CloIs 34 1 k s)) (fun _ iv => s.size + 1 - (intOf iv).toNat)
  case atStart => exact ⟨1, rfl, by first | rfl | trivial, by omega, by omega, rfl⟩
  case round =>
    obtain ⟨k, rfl, rfl, hk1, hk, hrel⟩ := hrel
    by_cases hlt : k < s.size
    · obtain ⟨s1, s2, s3, s4, s5⟩ := clo_step hrel.out hlt
      have qa : ((s[k].toNat : Int) == 92) = decide (s[k] = 92) := u8k 92 (by decide)
      have qb : ((s[k].toNat : Int) == 34) = decide (s[k] = 34) := u8k 34 (by decide)
      by_cases h92 : s[k] = 92
      · have H := Lib.hid (s1 h92)
        rw [decide_eq_true h92] at qa
        clear s1 s2 s3 s4 s5 hrel qb h92
        go_wp2
        go_round
        case rel => exact ⟨k + 1 + 1, by go_num, rfl, by omega, by omega, H⟩
        case measure => simp [intOf]; omega
      · rw [decide_eq_false h92] at qa
        by_cases hc : s[k] = 34
        · rw [decide_eq_true hc] at qb
          have H := Lib.hid (end_yes (w := w) (s2 h92 hc rfl) rfl)
          clear s1 s2 s3 s4 s5 hrel h92 hc
          go_wp2
          go_ret
          exact H.out
        · rw [decide_eq_false hc] at qb
          have H := Lib.hid (s5 h92 hc (.inr (by decide)))
          clear s1 s2 s3 s4 s5 hrel h92 hc
          go_wp2
          go_round
          case rel => exact ⟨k + 1, by go_num, rfl, by omega, by omega, H⟩
          case measure => simp [intOf]; omega
    · have H := Lib.hid (end_no (w := w) (clo_end hrel.out hlt))
      clear hrel
      go_wp2
      go_ret
      exact H.out
set_option maxHeartbeats 4000000 in
set_option maxRecDepth 100000 in
theorem end91 (s : ByteArray) (w : World) (h0 : 0 < s.size) (hs : s.size ≤ 100000000) (ho : s[0] = 91) : Calls Tryz.prog 102 #[.string s] w (EndRet 93 s w) := by
  obtain ⟨o1, o2, o3⟩ := k91 ho
  clear ho
  go_enter Tryz.func102, Tryz.ntmps102
  go_wp2
  go_loop [3, 4] (fun dv iv => ∃ k : Nat, iv = .int .i64 k ∧ dv = .int .i64 0 ∧ 1 ≤ k ∧ k ≤ s.size + 1 ∧ Hid (CloIs 93 1 k s)) (fun _ iv => s.size + 1 - (intOf iv).toNat)
  case atStart => exact ⟨1, rfl, by first | rfl | trivial, by omega, by omega, rfl⟩
  case round =>
    obtain ⟨k, rfl, rfl, hk1, hk, hrel⟩ := hrel
    by_cases hlt : k < s.size
    · obtain ⟨s1, s2, s3, s4, s5⟩ := clo_step hrel.out hlt
      have qa : ((s[k].toNat : Int) == 92) = decide (s[k] = 92) := u8k 92 (by decide)
      have qb : ((s[k].toNat : Int) == 93) = decide (s[k] = 93) := u8k 93 (by decide)
      by_cases h92 : s[k] = 92
      · have H := Lib.hid (s1 h92)
        rw [decide_eq_true h92] at qa
        clear s1 s2 s3 s4 s5 hrel qb h92
        go_wp2
        go_round
        case rel => exact ⟨k + 1 + 1, by go_num, rfl, by omega, by omega, H⟩
        case measure => simp [intOf]; omega
      · rw [decide_eq_false h92] at qa
        by_cases hc : s[k] = 93
        · rw [decide_eq_true hc] at qb
          have H := Lib.hid (end_yes (w := w) (s2 h92 hc rfl) rfl)
          clear s1 s2 s3 s4 s5 hrel h92 hc
          go_wp2
          go_ret
          exact H.out
        · rw [decide_eq_false hc] at qb
          have H := Lib.hid (s5 h92 hc (.inr (by decide)))
          clear s1 s2 s3 s4 s5 hrel h92 hc
          go_wp2
          go_round
          case rel => exact ⟨k + 1, by go_num, rfl, by omega, by omega, H⟩
          case measure => simp [intOf]; omega
    · have H := Lib.hid (end_no (w := w) (clo_end hrel.out hlt))
      clear hrel
      go_wp2
      go_ret
      exact H.out
def FrRetR (s : ByteArray) (w : World) (e : Ending) (w' : World) : Prop := e = .returned (.agg #[.int .i64 ((frS s).1 : Nat), .string (s.extract 0 (frS s).2)]) ∧ Below w.heap.size w w'
theorem frR_end {s : ByteArray} {w w' : World} {k n : Nat} (e : frS s = (k, n)) (hb : Below w.heap.size w w') : FrRetR s w (.returned (.agg #[.int .i64 (k : Nat), .string (s.extract 0 n)])) w' := by
  unfold FrRetR; rw [e]; exact ⟨rfl, hb⟩
theorem tw_no {p : UInt8 → Bool} {s : ByteArray} (h0 : 0 < s.size) (h : p s[0] = false) : (s.data.toList.takeWhile p).length = 0 := by
  rw [data_cons s h0, List.takeWhile_cons, if_neg (by rw [h]; decide)]; rfl
set_option maxHeartbeats 4000000 in
set_option maxRecDepth 100000 in
theorem rfront_any (s : ByteArray) (w : World) (h0 : 0 < s.size) (hs : s.size ≤ 100000000) : Calls Tryz.prog 83 #[.string s] w (FrRetR s w) := by
  have hr : 1 ≤ (frS s).2 ∧ (frS s).2 ≤ s.size := fr_rng (l := s.data.toList) (fun e => by have : s.data.toList.length = s.size := rfl; rw [e] at this; simp at this; omega)
  have hB := rblank_any s[0]
  have hI := rspec_any s[0]
  rcases fr_cases s h0 with ⟨b, e⟩ | ⟨b, e1, e⟩ | ⟨b, e1, e⟩ | ⟨b, e1, e⟩ | ⟨b, e1, e2, e3, e4, e⟩ | ⟨b, e1, e2, e3, e4, e5, e⟩ | ⟨b, e1, e2, e3, e4, e5, e⟩
  · clear hB hI
    rw [e] at hr
    have hst : Hid (RowIs Su.blk s 0) := show 0 + _ = _ by rw [tl_zero, Nat.zero_add]
    have HF := Lib.hid rblank_any
    obtain ⟨N, hN⟩ : ∃ N, (s.data.toList.takeWhile Su.blk).length = N := ⟨_, rfl⟩
    rw [hN] at e hr
    have FE := Lib.hid (fun w' hb => frR_end (w := w) (w' := w') e hb)
    have HN := Lib.hid hN
    obtain ⟨r1, r2⟩ := hr
    have r1 : 1 ≤ N := r1
    have r2 : N ≤ s.size := r2
    clear e b hN
    go_enter Tryz.func83, Tryz.ntmps83
    go_wp2
    go_loop [3] (fun iv => ∃ k : Nat, k ≤ s.size ∧ iv = .int .i64 k ∧ Hid (RowIs Su.blk s k)) (fun iv => s.size - (intOf iv).toNat)
    case atStart => exact ⟨0, by omega, by first | rfl | trivial, hst⟩
    case round =>
      clear hst
      obtain ⟨k, hk, rfl, hrel⟩ := hrel
      by_cases hlt : k < s.size
      · obtain ⟨s1, s2⟩ := row_step hrel.out hlt
        have hF := fun w => (HF.out s[k] w)
        cases hp : Su.blk s[k] with
        | true =>
          have hd := Lib.hid (s1 hp)
          rw [hp] at hF
          have HF2 := Lib.hid hF
          clear s1 s2 hF hp hrel
          go_wp2_with (go_at_call 101; refine (HF2.out _).mono ?_; rintro e w' ⟨rfl, rfl⟩)
          go_round
          case rel => exact ⟨k + 1, by omega, by go_num, hd⟩
          case measure => simp [intOf]; omega
        | false =>
          have hkN := s2 hp
          rw [HN.out] at hkN
          rw [hp] at hF
          have HF2 := Lib.hid hF
          subst hkN
          clear s1 s2 hF hp hrel
          go_wp2_with (go_at_call 101; refine (HF2.out _).mono ?_; rintro e w' ⟨rfl, rfl⟩)
          exact bodyPost_ret (v := .agg #[.int .i64 (6 : Nat), .string (s.extract 0 N)]) (by simp [results, Tryz.results83, go_sem]) rfl (FE.out _ ((Below.refl _ _).alloc (Nat.le_refl _) _))
      · have hkN := row_end hrel.out hlt hk
        rw [HN.out] at hkN
        obtain rfl : N = s.size := by omega
        obtain rfl : k = s.size := by omega
        have FE := FE.out
        rw [ext_all] at FE
        have FE := Lib.hid FE
        have hx := ext_all s
        clear hrel HN
        go_wp2
        exact bodyPost_ret (v := .agg #[.int .i64 (6 : Nat), .string s]) (by simp [results, Tryz.results83, go_sem, hx]) rfl (FE.out _ ((Below.refl _ _).alloc (Nat.le_refl _) _))
  · rw [b] at hB
    have HB := Lib.hid hB
    obtain ⟨q1, q2, q3⟩ := k40 e1
    have hC : ∀ w, Calls Tryz.prog 102 #[.string s] w (EndRet 41 s w) := fun w => end40 s w h0 hs e1
    rw [cls_X 3 41 s h0] at e
    unfold EndRet endV at hC
    cases hX : cloX 41 s with
    | some n =>
      rw [hX] at e hC
      have e : frS s = (3, n) := e
      rw [e] at hr
      have hC : ∀ w, Calls Tryz.prog 102 #[.string s] w fun e w' => e = .returned (.int .i64 (n : Nat)) ∧ w = w' := hC
      have HC := Lib.hid hC
      have FE := Lib.hid (fun w' hb => frR_end (w := w) (w' := w') e hb)
      have z1 : (0 : Int) ≤ (n : Int) := by omega
      have z2 : (n : Int) ≤ (s.size : Int) := by have := hr.2; omega
      have z3 : ((n : Int) == 0) = false := beq_eq_false_iff_ne.2 (by have := hr.1; omega)
      clear hB hI hC e e1 b hX hr
      go_enter Tryz.func83, Tryz.ntmps83
      go_wp2
      go_loop [3] (fun iv => iv = .int .i64 0) (fun _ => 0)
      case atStart => first | rfl | trivial
      case round =>
        obtain rfl := hrel
        go_wp2_with (first
          | (go_at_call 101; refine (HB.out _).mono ?_; rintro e w' ⟨rfl, rfl⟩)
          | (go_at_call 102; refine (HC.out _).mono ?_; rintro e w' ⟨rfl, rfl⟩))
        exact bodyPost_ret (v := .agg #[.int .i64 (3 : Nat), .string (s.extract 0 n)]) (by simp [results, Tryz.results83, go_sem]) rfl (FE.out _ ((Below.refl _ _).alloc (Nat.le_refl _) _))
    | none =>
      rw [hX] at e hC
      have hC : ∀ w, Calls Tryz.prog 102 #[.string s] w fun e w' => e = .returned (.int .i64 0) ∧ w = w' := hC
      have HC := Lib.hid hC
      have e : frS s = (7, s.size) := e
      have FE0 := (fun w' hb => frR_end (w := w) (w' := w') e hb)
      rw [ext_all] at FE0
      have FE := Lib.hid FE0
      clear hB hI hC e e1 b hX hr FE0
      go_enter Tryz.func83, Tryz.ntmps83
      go_wp2
      go_loop [3] (fun iv => iv = .int .i64 0) (fun _ => 0)
      case atStart => first | rfl | trivial
      case round =>
        obtain rfl := hrel
        go_wp2_with (first
          | (go_at_call 101; refine (HB.out _).mono ?_; rintro e w' ⟨rfl, rfl⟩)
          | (go_at_call 102; refine (HC.out _).mono ?_; rintro e w' ⟨rfl, rfl⟩))
        exact bodyPost_ret (v := .agg #[.int .i64 (7 : Nat), .string s]) (by simp [results, Tryz.results83, go_sem]) rfl (FE.out _ ((Below.refl _ _).alloc (Nat.le_refl _) _))
  · rw [b] at hB
    have HB := Lib.hid hB
    obtain ⟨q1, q2, q3⟩ := k34 e1
    have hC : ∀ w, Calls Tryz.prog 102 #[.string s] w (EndRet 34 s w) := fun w => end34 s w h0 hs e1
    rw [cls_X 2 34 s h0] at e
    unfold EndRet endV at hC
    cases hX : cloX 34 s with
    | some n =>
      rw [hX] at e hC
      have e : frS s = (2, n) := e
      rw [e] at hr
      have hC : ∀ w, Calls Tryz.prog 102 #[.string s] w fun e w' => e = .returned (.int .i64 (n : Nat)) ∧ w = w' := hC
      have HC := Lib.hid hC
      have FE := Lib.hid (fun w' hb => frR_end (w := w) (w' := w') e hb)
      have z1 : (0 : Int) ≤ (n : Int) := by omega
      have z2 : (n : Int) ≤ (s.size : Int) := by have := hr.2; omega
      have z3 : ((n : Int) == 0) = false := beq_eq_false_iff_ne.2 (by have := hr.1; omega)
      clear hB hI hC e e1 b hX hr
      go_enter Tryz.func83, Tryz.ntmps83
      go_wp2
      go_loop [3] (fun iv => iv = .int .i64 0) (fun _ => 0)
      case atStart => first | rfl | trivial
      case round =>
        obtain rfl := hrel
        go_wp2_with (first
          | (go_at_call 101; refine (HB.out _).mono ?_; rintro e w' ⟨rfl, rfl⟩)
          | (go_at_call 102; refine (HC.out _).mono ?_; rintro e w' ⟨rfl, rfl⟩))
        exact bodyPost_ret (v := .agg #[.int .i64 (2 : Nat), .string (s.extract 0 n)]) (by simp [results, Tryz.results83, go_sem]) rfl (FE.out _ ((Below.refl _ _).alloc (Nat.le_refl _) _))
    | none =>
      rw [hX] at e hC
      have hC : ∀ w, Calls Tryz.prog 102 #[.string s] w fun e w' => e = .returned (.int .i64 0) ∧ w = w' := hC
      have HC := Lib.hid hC
      have e : frS s = (7, s.size) := e
      have FE0 := (fun w' hb => frR_end (w := w) (w' := w') e hb)
      rw [ext_all] at FE0
      have FE := Lib.hid FE0
      clear hB hI hC e e1 b hX hr FE0
      go_enter Tryz.func83, Tryz.ntmps83
      go_wp2
      go_loop [3] (fun iv => iv = .int .i64 0) (fun _ => 0)
      case atStart => first | rfl | trivial
      case round =>
        obtain rfl := hrel
        go_wp2_with (first
          | (go_at_call 101; refine (HB.out _).mono ?_; rintro e w' ⟨rfl, rfl⟩)
          | (go_at_call 102; refine (HC.out _).mono ?_; rintro e w' ⟨rfl, rfl⟩))
        exact bodyPost_ret (v := .agg #[.int .i64 (7 : Nat), .string s]) (by simp [results, Tryz.results83, go_sem]) rfl (FE.out _ ((Below.refl _ _).alloc (Nat.le_refl _) _))
  · rw [b] at hB
    have HB := Lib.hid hB
    obtain ⟨q1, q2, q3⟩ := k91 e1
    have hC : ∀ w, Calls Tryz.prog 102 #[.string s] w (EndRet 93 s w) := fun w => end91 s w h0 hs e1
    rw [cls_X 5 93 s h0] at e
    unfold EndRet endV at hC
    cases hX : cloX 93 s with
    | some n =>
      rw [hX] at e hC
      have e : frS s = (5, n) := e
      rw [e] at hr
      have hC : ∀ w, Calls Tryz.prog 102 #[.string s] w fun e w' => e = .returned (.int .i64 (n : Nat)) ∧ w = w' := hC
      have HC := Lib.hid hC
      have FE := Lib.hid (fun w' hb => frR_end (w := w) (w' := w') e hb)
      have z1 : (0 : Int) ≤ (n : Int) := by omega
      have z2 : (n : Int) ≤ (s.size : Int) := by have := hr.2; omega
      have z3 : ((n : Int) == 0) = false := beq_eq_false_iff_ne.2 (by have := hr.1; omega)
      clear hB hI hC e e1 b hX hr
      go_enter Tryz.func83, Tryz.ntmps83
      go_wp2
      go_loop [3] (fun iv => iv = .int .i64 0) (fun _ => 0)
      case atStart => first | rfl | trivial
      case round =>
        obtain rfl := hrel
        go_wp2_with (first
          | (go_at_call 101; refine (HB.out _).mono ?_; rintro e w' ⟨rfl, rfl⟩)
          | (go_at_call 102; refine (HC.out _).mono ?_; rintro e w' ⟨rfl, rfl⟩))
        exact bodyPost_ret (v := .agg #[.int .i64 (5 : Nat), .string (s.extract 0 n)]) (by simp [results, Tryz.results83, go_sem]) rfl (FE.out _ ((Below.refl _ _).alloc (Nat.le_refl _) _))
    | none =>
      rw [hX] at e hC
      have hC : ∀ w, Calls Tryz.prog 102 #[.string s] w fun e w' => e = .returned (.int .i64 0) ∧ w = w' := hC
      have HC := Lib.hid hC
      have e : frS s = (7, s.size) := e
      have FE0 := (fun w' hb => frR_end (w := w) (w' := w') e hb)
      rw [ext_all] at FE0
      have FE := Lib.hid FE0
      clear hB hI hC e e1 b hX hr FE0
      go_enter Tryz.func83, Tryz.ntmps83
      go_wp2
      go_loop [3] (fun iv => iv = .int .i64 0) (fun _ => 0)
      case atStart => first | rfl | trivial
      case round =>
        obtain rfl := hrel
        go_wp2_with (first
          | (go_at_call 101; refine (HB.out _).mono ?_; rintro e w' ⟨rfl, rfl⟩)
          | (go_at_call 102; refine (HC.out _).mono ?_; rintro e w' ⟨rfl, rfl⟩))
        exact bodyPost_ret (v := .agg #[.int .i64 (7 : Nat), .string s]) (by simp [results, Tryz.results83, go_sem]) rfl (FE.out _ ((Below.refl _ _).alloc (Nat.le_refl _) _))
  · rw [b] at hB
    rw [e4] at hI
    obtain ⟨q1, q2, q3⟩ := kno e1 e2 e3
    have HB := Lib.hid hB
    have HI := Lib.hid hI
    have FE := Lib.hid (fun w' hb => frR_end (w := w) (w' := w') e hb)
    have z2 : (1 : Int) ≤ (s.size : Int) := by omega
    clear hB hI e e1 e2 e3 e4 b hr
    go_enter Tryz.func83, Tryz.ntmps83
    go_wp2
    go_loop [3] (fun iv => iv = .int .i64 0) (fun _ => 0)
    case atStart => first | rfl | trivial
    case round =>
      obtain rfl := hrel
      go_wp2_with (first
        | (go_at_call 101; refine (HB.out _).mono ?_; rintro e w' ⟨rfl, rfl⟩)
        | (go_at_call 99; refine (HI.out _).mono ?_; rintro e w' ⟨rfl, rfl⟩))
      exact bodyPost_ret (v := .agg #[.int .i64 (4 : Nat), .string (s.extract 0 1)]) (by simp [results, Tryz.results83, go_sem]) rfl (FE.out _ ((Below.refl _ _).alloc (Nat.le_refl _) _))
  · rw [b] at hB
    rw [e4] at hI
    obtain ⟨q1, q2, q3⟩ := kno e1 e2 e3
    have HB := Lib.hid hB
    have HI := Lib.hid hI
    rw [e] at hr
    have hst : Hid (RowIs atm s 0) := show 0 + _ = _ by rw [tl_zero, Nat.zero_add]
    have HF := Lib.hid ratom_any
    obtain ⟨N, hN⟩ : ∃ N, (s.data.toList.takeWhile atm).length = N := ⟨_, rfl⟩
    rw [hN] at e hr
    have FE := Lib.hid (fun w' hb => frR_end (w := w) (w' := w') e hb)
    have HN := Lib.hid hN
    obtain ⟨r1, r2⟩ := hr
    have r1 : 1 ≤ N := r1
    have r2 : N ≤ s.size := r2
    clear hB hI e e1 e2 e3 e4 e5 b hN
    go_enter Tryz.func83, Tryz.ntmps83
    go_wp2
    go_loop [3] (fun iv => iv = .int .i64 0) (fun _ => 0)
    case atStart => first | rfl | trivial
    case round =>
      obtain rfl := hrel
      go_wp2_with (first
        | (go_at_call 101; refine (HB.out _).mono ?_; rintro e w' ⟨rfl, rfl⟩)
        | (go_at_call 99; refine (HI.out _).mono ?_; rintro e w' ⟨rfl, rfl⟩))
      go_loop [3] (fun iv => ∃ k : Nat, k ≤ s.size ∧ iv = .int .i64 k ∧ Hid (RowIs atm s k)) (fun iv => s.size - (intOf iv).toNat)
      case atStart => exact ⟨0, by omega, by first | rfl | trivial, hst⟩
      case round =>
        clear hst
        obtain ⟨k, hk, rfl, hrel⟩ := hrel
        by_cases hlt : k < s.size
        · obtain ⟨s1, s2⟩ := row_step hrel.out hlt
          have hF := fun w => (HF.out s[k] w)
          cases hp : atm s[k] with
          | true =>
            have hd := Lib.hid (s1 hp)
            rw [hp] at hF
            have HF2 := Lib.hid hF
            clear s1 s2 hF hp hrel
            go_wp2_with (go_at_call 72; refine (HF2.out _).mono ?_; rintro e w' ⟨rfl, rfl⟩)
            go_round
            case rel => exact ⟨k + 1, by omega, by go_num, hd⟩
            case measure => simp [intOf]; omega
          | false =>
            have hkN := s2 hp
            rw [HN.out] at hkN
            rw [hp] at hF
            have HF2 := Lib.hid hF
            subst hkN
            clear s1 s2 hF hp hrel
            go_wp2_with (go_at_call 72; refine (HF2.out _).mono ?_; rintro e w' ⟨rfl, rfl⟩)
            exact bodyPost_ret (v := .agg #[.int .i64 (1 : Nat), .string (s.extract 0 N)]) (by simp [results, Tryz.results83, go_sem]) rfl (FE.out _ ((Below.refl _ _).alloc (Nat.le_refl _) _))
        · have hkN := row_end hrel.out hlt hk
          rw [HN.out] at hkN
          obtain rfl : N = s.size := by omega
          obtain rfl : k = s.size := by omega
          have FE := FE.out
          rw [ext_all] at FE
          have FE := Lib.hid FE
          have hx := ext_all s
          clear hrel HN
          go_wp2
          exact bodyPost_ret (v := .agg #[.int .i64 (1 : Nat), .string s]) (by simp [results, Tryz.results83, go_sem, hx]) rfl (FE.out _ ((Below.refl _ _).alloc (Nat.le_refl _) _))
  · rw [b] at hB
    rw [e4] at hI
    obtain ⟨q1, q2, q3⟩ := kno e1 e2 e3
    have HB := Lib.hid hB
    have HI := Lib.hid hI
    have hA := ratom_any s[0]
    rw [e5] at hA
    have HA := Lib.hid hA
    have FE := Lib.hid (fun w' hb => frR_end (w := w) (w' := w') e hb)
    have z2 : (1 : Int) ≤ (s.size : Int) := by omega
    clear hB hI hA e e1 e2 e3 e4 e5 b hr
    go_enter Tryz.func83, Tryz.ntmps83
    go_wp2
    go_loop [3] (fun iv => iv = .int .i64 0) (fun _ => 0)
    case atStart => first | rfl | trivial
    case round =>
      obtain rfl := hrel
      go_wp2_with (first
        | (go_at_call 101; refine (HB.out _).mono ?_; rintro e w' ⟨rfl, rfl⟩)
        | (go_at_call 99; refine (HI.out _).mono ?_; rintro e w' ⟨rfl, rfl⟩))
      go_loop [3] (fun iv => iv = .int .i64 0) (fun _ => 0)
      case atStart => first | rfl | trivial
      case round =>
        obtain rfl := hrel
        go_wp2_with (go_at_call 72; refine (HA.out _).mono ?_; rintro e w' ⟨rfl, rfl⟩)
        exact bodyPost_ret (v := .agg #[.int .i64 (7 : Nat), .string (s.extract 0 1)]) (by simp [results, Tryz.results83, go_sem]) rfl (FE.out _ ((Below.refl _ _).alloc (Nat.le_refl _) _))
end Go.Proofs.YtilccofdphohiaaGreatDoor
namespace Go.Proofs.YtilccofdphohiaaGreatDoor
open Go.RowKit Pk Tk Su Fo

theorem kept_new {w1 w6 : World} {B : Nat} {e : TypeId} {v : Value} {l : List El} {o o2 : Obj} (hown : ownsE w1 B e v l) (hg : ((w1.alloc o).alloc o2).grownBy w6 v.ownBlock) : w6.heap[w1.heap.size]? = some o := by
  rw [hg.block w1.heap.size (by simp; omega) (fun e => by have := (World.ownsRow.lt hown _ e.symm).2; omega)]
  exact (heap_alloc_old _ o2 (by simp)).trans (heap_alloc_new w1 o)
set_option maxHeartbeats 4000000 in
set_option maxRecDepth 100000 in
theorem rscan_any (s : ByteArray) (w : World) (hs : s.size ≤ 10000000) : Calls Tryz.prog 54 #[.string s] w (ToksIs (sc s.data.toList) w) := by
  go_enter Tryz.func54, Tryz.ntmps54
  go_wp2
  go_loopw [0, 3] (fun sv lv wr => ∃ (S : ByteArray) (acc : List El), sv = .string S ∧ ownsE wr w.heap.size 43 lv acc ∧ Below w.heap.size w wr ∧ acc.length + S.size ≤ s.size ∧ Hid (acc ++ sc S.data.toList = sc s.data.toList)) (fun sv _ _ => match sv with | .string S => S.size | _ => 0)
  case atStart => exact ⟨s, [], rfl, ownsE.nil _ _ _, Below.refl _ _, by simp, rfl⟩
  case round =>
    obtain ⟨S, acc, rfl, hown, hbel, hal, hrel⟩ := hrel
    have hz := hbel.size
    by_cases h0 : 0 < S.size
    · have hF := fun W => rfront_any S W h0 (by omega)
      have hr : 1 ≤ (frS S).2 ∧ (frS S).2 ≤ S.size := fr_rng (l := S.data.toList) (fun e => by have := dataL S; rw [e] at this; simp at this; omega)
      obtain ⟨⟨k, n⟩, e⟩ : ∃ p, frS S = p := ⟨_, rfl⟩
      have hst := sc_step hrel h0 e
      unfold FrRetR at hF
      rw [e] at hF hr
      have hne := neS h0
      have hx := ext_size S n S.size
      have hn := ext_size S 0 n
      obtain ⟨r1, r2⟩ := hr
      have r1 : 1 ≤ n := r1
      have r2 : n ≤ S.size := r2
      have HF := Lib.hid hF
      generalize S.extract 0 n = T at HF hst hn
      obtain rfl : n = T.size := by omega
      generalize hR : S.extract T.size S.size = R at hst hx
      have hx2 : R.size + T.size = S.size := by omega
      have z1 : (0 : Int) ≤ (T.size : Int) := by omega
      have z2 : (T.size : Int) ≤ (S.size : Int) := by omega
      clear hF hrel e hx hn
      go_wp2_with (first
        | (go_at_call 83; go_loud ((with_reducible refine (HF.out _).mono ?_); rintro e w1 ⟨rfl, hb1⟩; have hown1 := ownsE.below hown hb1 (Nat.le_refl _); have hz1 := hb1.size))
        | (at_builtin; go_loud (refine append_el _ rfl (.tmp 9) (.tmp 11) elT rfl w.heap.size _ _ rfl (ownsE.alloc (ownsE.alloc hown1 _) _) ⟨_, 0, none⟩ ⟨k, T⟩ 1 rfl (cells_at _ _ (by simp) _ _) (by omega) (by simp; omega) ?_; intro v6 w6 hown6 hg6; have hb6 := Below_grownE (((hbel.trans (hb1.mono hz)).alloc (Nat.le_trans hz hz1) _).alloc (by simp; omega) _) (ownsE.alloc (ownsE.alloc hown1 _) _) hg6 (by simp; omega); have hk6 := kept_new hown1 hg6; have c1 : w6.cell? ⟨w1.heap.size, 1, none⟩ = some (.string T) := (Lib.cell_of_heap hk6 1).trans rfl; clear hg6 hk6)))
      go_roundw
      case rel => exact ⟨R, _, rfl, hown6, hb6, by rw [List.length_append, List.length_singleton]; omega, hst⟩
      case measure => show R.size < S.size; omega
    · have hnil := nilS (S := S) (by omega)
      have hX := sc_stop hrel (by omega)
      have hpost : Hid (ToksIs (sc s.data.toList) w (.returned u3) wr) := ⟨_, rfl, by rw [← hX]; exact hown, hbel⟩
      clear hrel hX hown
      go_wp2
      go_ret
      exact hpost.out
theorem joinB_step {m : List El} {i : Nat} {A : ByteArray} {X : List UInt8} (h : Hid (A.data.toList ++ joinE (m.drop i) = X)) (hi : i < m.length) : Hid ((A ++ m[i].text).data.toList ++ joinE (m.drop (i + 1)) = X) ∧ A.size + m[i].text.size ≤ X.length := by
  have e := (joinE_step h hi).out
  have : (A ++ m[i].text : ByteArray).data.toList = A.data.toList ++ m[i].text.data.toList := by rw [ByteArray.data_append, Array.toList_append]
  refine ⟨show _ = _ by rw [this]; exact e, ?_⟩
  have := joinE_len h hi
  rwa [dataL] at this
set_option maxHeartbeats 4000000 in
set_option maxRecDepth 100000 in
theorem rbare_any (v : Value) (m : List El) (w : World) (hM : seesE w w.heap.size 43 v m) (hm : m.length ≤ 10000000) : Calls Tryz.prog 53 #[v] w (ToksIs (bareE m) w) := by
  obtain ⟨p, c, rfl, hc, hM⟩ := hM.form
  rcases hM with rfl | ⟨g, rfl, hg, hM⟩
  · go_enter Tryz.func53, Tryz.ntmps53
    go_wp2
    go_loopw [3, 4] (fun ov iv wr => ov = .slice none 0 0 ∧ iv = .int .i64 0 ∧ wr = w) (fun ov iv _ => 0)
    case atStart => exact ⟨rfl, by first | rfl | trivial, rfl⟩
    case round =>
      obtain ⟨rfl, rfl, rfl⟩ := hrel
      go_wp2
      go_ret
      exact ⟨_, rfl, ownsE.nil _ _ _, Below.refl _ _⟩
  · have HM := Lib.hid hM
    have hz : Hid ([] ++ bareE (m.drop 0) = bareE m) := rfl
    generalize bareE m = X at hz ⊢
    clear hM
    go_enter Tryz.func53, Tryz.ntmps53
    go_wp2
    go_loopw [3, 4] (fun ov iv wr => ∃ (i : Nat) (acc : List El), iv = .int .i64 i ∧ ownsE wr w.heap.size 43 ov acc ∧ Below w.heap.size w wr ∧ i ≤ m.length ∧ acc.length ≤ i ∧ Hid (acc ++ bareE (m.drop i) = X)) (fun _ iv _ => m.length - (intOf iv).toNat)
    case atStart => exact ⟨0, [], by first | rfl | trivial, ownsE.nil _ _ _, Below.refl _ _, by omega, by simp, hz⟩
    case round =>
      clear hz
      obtain ⟨i, acc, rfl, hown, hbel, hi, hal, hrel⟩ := hrel
      have hsz := hbel.size
      by_cases hlt : i < m.length
      · obtain ⟨s1, s2⟩ := bareE_step hrel hlt
        obtain ⟨c0, c1⟩ := HM.out i hlt
        have c0 := cell_later hbel c0
        have c1 := cell_later hbel c1
        clear hrel
        by_cases h6 : m[i].kind = 6
        · have hd := s1 (.inl h6)
          have q6 : ((m[i].kind : Int) != 6) = false := bne_eq_false_iff_eq.2 (by omega)
          clear s1 s2 h6
          go_wp2
          go_roundw
          case rel => exact ⟨i + 1, _, by go_num, hown, hbel, by omega, by omega, hd⟩
          case measure => simp [intOf]; omega
        · have q6 : ((m[i].kind : Int) != 6) = true := bne_iff_ne.2 (by omega)
          by_cases h3 : m[i].kind = 3
          · have hd := s1 (.inr h3)
            have q3 : ((m[i].kind : Int) != 3) = false := bne_eq_false_iff_eq.2 (by omega)
            clear s1 s2 h6 h3
            go_wp2
            go_roundw
            case rel => exact ⟨i + 1, _, by go_num, hown, hbel, by omega, by omega, hd⟩
            case measure => simp [intOf]; omega
          · have hd := s2 h6 h3
            have q3 : ((m[i].kind : Int) != 3) = true := bne_iff_ne.2 (by omega)
            clear s1 s2 h6 h3
            generalize m[i].kind = k at *
            generalize m[i].text = T at *
            go_wp2_with (at_builtin; go_loud (refine append_el _ rfl (.tmp 25) (.tmp 30) elT rfl w.heap.size _ _ rfl (ownsE.alloc hown _) ⟨_, 0, none⟩ ⟨k, T⟩ 1 rfl (cells_at _ _ (by simp) _ _) (by omega) (by simp; omega) ?_; intro v6 w6 hown6 hg6; have hb6 := Below_grownE (hbel.alloc hsz _) (ownsE.alloc hown _) hg6 (Nat.le_trans hsz (heap_size_alloc_le _ _)); clear hg6))
            go_roundw
            case rel => exact ⟨i + 1, _, by go_num, hown6, hb6, by omega, by rw [List.length_append, List.length_singleton]; omega, hd⟩
            case measure => simp [intOf]; omega
      · have hX := bareE_end hrel hlt
        have hpost : Hid (ToksIs X w (.returned u3) wr) := ⟨_, rfl, by rw [← hX]; exact hown, hbel⟩
        clear hrel hX hown
        go_wp2
        go_ret
        exact hpost.out
end Go.Proofs.YtilccofdphohiaaGreatDoor
namespace Go.Proofs.YtilccofdphohiaaGreatDoor
open Go.RowKit Pk Tk Su Fo

theorem bslT : ByteSl Tryz.prog 45 5 where
  ht := Tryz.underlying45
  he := Tryz.underlying5
  hi := info_parts (show (Tryz.prog.info? 5).map (fun i => (i.zero, i.size, i.bytes)) = some (some (.int .u8 0), 1, 1) by kernel_rfl)
set_option maxRecDepth 100000 in
theorem rvalue_short (k : Int) (T : ByteArray) (w : World) (hs : T.size ≤ 100000000) (h : ¬ ((k = 2 ∨ k = 3) ∧ 2 ≤ T.size)) : Calls Tryz.prog 57 #[.agg #[.int .i64 k, .string T]] w (StrIs (valI k T.data.toList) w) := by
  by_cases k2 : k = 2
  · have hT : T.size < 2 := by omega
    subst k2
    have hpost := Lib.hid (fun w' hb => val_plain (w := w) (w' := w') h hb)
    clear h
    go_enter Tryz.func57, Tryz.ntmps57
    go_wp2
    go_ret
    exact hpost.out _ ((Below.refl _ _).alloc (Nat.le_refl _) _)
  · have q2 : (k != 2) = true := bne_iff_ne.2 k2
    by_cases k3 : k = 3
    · have hT : T.size < 2 := by omega
      subst k3
      have hpost := Lib.hid (fun w' hb => val_plain (w := w) (w' := w') h hb)
      clear h
      go_enter Tryz.func57, Tryz.ntmps57
      go_wp2
      go_ret
      exact hpost.out _ ((Below.refl _ _).alloc (Nat.le_refl _) _)
    · have q3 : (k != 3) = true := bne_iff_ne.2 k3
      clear k2 k3
      have hpost := Lib.hid (fun w' hb => val_plain (w := w) (w' := w') h hb)
      clear h
      go_enter Tryz.func57, Tryz.ntmps57
      go_wp2
      go_ret
      exact hpost.out _ ((Below.refl _ _).alloc (Nat.le_refl _) _)
theorem ueR_step {s : ByteArray} {k : Nat} {acc X : List UInt8} (h : Hid (acc ++ ue false (tl s k) = X)) (hk : k < s.size) :
    (∀ h2 : k + 1 < s.size, s[k] = 92 → Hid (acc ++ [s[k + 1]] ++ ue false (tl s (k + 1 + 1)) = X)) ∧ (¬ k + 1 < s.size → s[k] = 92 → Hid (acc ++ ue false (tl s (k + 1 + 1)) = X)) ∧
    (s[k] ≠ 92 → (s[k] = 10 ∨ s[k] = 13) → Hid (acc ++ ue false (tl s (k + 1)) = X)) ∧ (s[k] ≠ 92 → s[k] ≠ 10 → s[k] ≠ 13 → Hid (acc ++ [s[k]] ++ ue false (tl s (k + 1)) = X)) := by
  obtain ⟨_, s2, s3, s4⟩ := ue_step h hk
  refine ⟨fun h2 h1 => (ue_step (s2 rfl h1) h2).1 rfl, fun h2 h1 => ?_, s3 rfl, s4 rfl⟩
  have e := (s2 rfl h1).out
  rw [tl_end s (k + 1) (by omega)] at e
  show _ = _
  rw [tl_end s (k + 1 + 1) (by omega), ← e]; simp [ue]
set_option maxHeartbeats 4000000 in
set_option maxRecDepth 100000 in
theorem rvalue_long (k : Int) (T : ByteArray) (w : World) (hs : T.size ≤ 100000000) (hk : k = 2 ∨ k = 3) (hT : 2 ≤ T.size) : Calls Tryz.prog 57 #[.agg #[.int .i64 k, .string T]] w (StrIs (valI k T.data.toList) w) := by
  have hX : valI k T.data.toList = ue false (tl (T.extract 1 (T.size - 1)) 0) := by
    unfold valI
    rw [if_pos ⟨hk, hT⟩, tl_zero, Lib.extract_data, dataL]; rfl
  rw [hX]
  have hPs : (T.extract 1 (T.size - 1)).size = T.size - 2 := by rw [ext_size]; omega
  have hti : ((T.size : Int) - 1).toNat = T.size - 1 := by omega
  have z1 : (1 : Int) ≤ (T.size : Int) - 1 := by omega
  have z2 : (T.size : Int) - 1 ≤ (T.size : Int) := by omega
  generalize hE : T.extract 1 (T.size - 1) = P at hPs ⊢
  clear hX
  obtain ⟨X, hX⟩ : ∃ X, X = ue false (tl P 0) := ⟨_, rfl⟩
  have hst0 : Hid ([] ++ ue false (tl P 0) = X) := hX.symm
  rw [← hX]
  clear hX
  have HPS := Lib.hid hPs
  clear hPs
  rcases hk with rfl | rfl
  · go_enter Tryz.func57, Tryz.ntmps57
    go_wp2
    go_loopw [4, 5] (fun ov iv wr => ∃ (i : Nat) (acc : List UInt8), iv = .int .i64 i ∧ ownsB wr w.heap.size 5 ov acc ∧ Below w.heap.size w wr ∧ i ≤ P.size + 1 ∧ acc.length ≤ i ∧ Hid (acc ++ ue false (tl P i) = X)) (fun _ iv _ => P.size + 1 - (intOf iv).toNat)
    case atStart => exact ⟨0, [], by first | rfl | trivial, ownsB.nil _ _ _, (Below.refl _ _).alloc (Nat.le_refl _) _, by omega, by simp, hst0⟩
    case round =>
      clear hst0 hE hti z1 z2
      obtain ⟨i, acc, rfl, hown, hbel, hi, hal, hrel⟩ := hrel
      have hsz := hbel.size
      have hP : P.size ≤ 100000000 := by have := HPS.out; omega
      by_cases hlt : i < P.size
      · obtain ⟨s1, s2, s3, s4⟩ := ueR_step hrel hlt
        have qa : ((P[i].toNat : Int) == 92) = decide (P[i] = 92) := u8k 92 (by decide)
        have qb : ((P[i].toNat : Int) != 10) = !decide (P[i] = 10) := by unfold bne; rw [show ((P[i].toNat : Int) == 10) = decide (P[i] = 10) from u8k 10 (by decide)]
        have qc : ((P[i].toNat : Int) != 13) = !decide (P[i] = 13) := by unfold bne; rw [show ((P[i].toNat : Int) == 13) = decide (P[i] = 13) from u8k 13 (by decide)]
        by_cases h92 : P[i] = 92
        · rw [decide_eq_true h92] at qa
          by_cases hlt2 : i + 1 < P.size
          · have hd := s1 hlt2 h92
            clear s1 s2 s3 s4 hrel qb qc h92
            go_wp2_with (at_builtin; refine append_bytes _ rfl (.tmp 45) (.tmp 49) bslT rfl w.heap.size _ _ rfl (hown.alloc _) ⟨_, 0, none⟩ 1 1 [_] rfl rfl (cells_new _ _ _) (by first | omega | (simp; done) | (simp; omega)) (by first | omega | (simp; done) | (simp; omega)) ?_; intro v6 w6 hown6 hg6; have hb6 := Below_grown (hbel.alloc hsz _) (hown.alloc _) hg6 (by first | omega | (simp; done) | (simp; omega)); have hz6 := hb6.size; clear hg6)
            go_roundw
            case rel => exact ⟨i + 1 + 1, _, by go_num, hown6, hb6, by omega, by simp; omega, hd⟩
            case measure => simp [intOf]; omega
          · have hd := s2 hlt2 h92
            clear s1 s2 s3 s4 hrel qb qc h92
            go_wp2
            go_roundw
            case rel => exact ⟨i + 1 + 1, _, by go_num, hown, hbel, by omega, by omega, hd⟩
            case measure => simp [intOf]; omega
        · rw [decide_eq_false h92] at qa
          by_cases h10 : P[i] = 10
          · have hd := s3 h92 (.inl h10)
            rw [decide_eq_true h10] at qb
            clear s1 s2 s3 s4 hrel qc h92 h10
            go_wp2
            go_roundw
            case rel => exact ⟨i + 1, _, by go_num, hown, hbel, by omega, by omega, hd⟩
            case measure => simp [intOf]; omega
          · rw [decide_eq_false h10] at qb
            by_cases h13 : P[i] = 13
            · have hd := s3 h92 (.inr h13)
              rw [decide_eq_true h13] at qc
              clear s1 s2 s3 s4 hrel h92 h10 h13
              go_wp2
              go_roundw
              case rel => exact ⟨i + 1, _, by go_num, hown, hbel, by omega, by omega, hd⟩
              case measure => simp [intOf]; omega
            · have hd := s4 h92 h10 h13
              rw [decide_eq_false h13] at qc
              clear s1 s2 s3 s4 hrel h92 h10 h13
              go_wp2_with (at_builtin; refine append_bytes _ rfl (.tmp 61) (.tmp 65) bslT rfl w.heap.size _ _ rfl (hown.alloc _) ⟨_, 0, none⟩ 1 1 [_] rfl rfl (cells_new _ _ _) (by first | omega | (simp; done) | (simp; omega)) (by first | omega | (simp; done) | (simp; omega)) ?_; intro v6 w6 hown6 hg6; have hb6 := Below_grown (hbel.alloc hsz _) (hown.alloc _) hg6 (by first | omega | (simp; done) | (simp; omega)); have hz6 := hb6.size; clear hg6)
              go_roundw
              case rel => exact ⟨i + 1, _, by go_num, hown6, hb6, by omega, by simp; omega, hd⟩
              case measure => simp [intOf]; omega
      · have he : acc = X := by
          have e := hrel.out
          rw [tl_end P i (by omega)] at e
          simpa [ue] using e
        subst he
        have hcv := run_string_owned (P := Tryz.prog) (ts := 9) bslT Tryz.underlying9 hown
        clear hrel
        go_wp2
        go_ret
        exact ⟨rfl, hbel⟩
  · go_enter Tryz.func57, Tryz.ntmps57
    go_wp2
    go_loopw [4, 5] (fun ov iv wr => ∃ (i : Nat) (acc : List UInt8), iv = .int .i64 i ∧ ownsB wr w.heap.size 5 ov acc ∧ Below w.heap.size w wr ∧ i ≤ P.size + 1 ∧ acc.length ≤ i ∧ Hid (acc ++ ue false (tl P i) = X)) (fun _ iv _ => P.size + 1 - (intOf iv).toNat)
    case atStart => exact ⟨0, [], by first | rfl | trivial, ownsB.nil _ _ _, (Below.refl _ _).alloc (Nat.le_refl _) _, by omega, by simp, hst0⟩
    case round =>
      clear hst0 hE hti z1 z2
      obtain ⟨i, acc, rfl, hown, hbel, hi, hal, hrel⟩ := hrel
      have hsz := hbel.size
      have hP : P.size ≤ 100000000 := by have := HPS.out; omega
      by_cases hlt : i < P.size
      · obtain ⟨s1, s2, s3, s4⟩ := ueR_step hrel hlt
        have qa : ((P[i].toNat : Int) == 92) = decide (P[i] = 92) := u8k 92 (by decide)
        have qb : ((P[i].toNat : Int) != 10) = !decide (P[i] = 10) := by unfold bne; rw [show ((P[i].toNat : Int) == 10) = decide (P[i] = 10) from u8k 10 (by decide)]
        have qc : ((P[i].toNat : Int) != 13) = !decide (P[i] = 13) := by unfold bne; rw [show ((P[i].toNat : Int) == 13) = decide (P[i] = 13) from u8k 13 (by decide)]
        by_cases h92 : P[i] = 92
        · rw [decide_eq_true h92] at qa
          by_cases hlt2 : i + 1 < P.size
          · have hd := s1 hlt2 h92
            clear s1 s2 s3 s4 hrel qb qc h92
            go_wp2_with (at_builtin; refine append_bytes _ rfl (.tmp 45) (.tmp 49) bslT rfl w.heap.size _ _ rfl (hown.alloc _) ⟨_, 0, none⟩ 1 1 [_] rfl rfl (cells_new _ _ _) (by first | omega | (simp; done) | (simp; omega)) (by first | omega | (simp; done) | (simp; omega)) ?_; intro v6 w6 hown6 hg6; have hb6 := Below_grown (hbel.alloc hsz _) (hown.alloc _) hg6 (by first | omega | (simp; done) | (simp; omega)); have hz6 := hb6.size; clear hg6)
            go_roundw
            case rel => exact ⟨i + 1 + 1, _, by go_num, hown6, hb6, by omega, by simp; omega, hd⟩
            case measure => simp [intOf]; omega
          · have hd := s2 hlt2 h92
            clear s1 s2 s3 s4 hrel qb qc h92
            go_wp2
            go_roundw
            case rel => exact ⟨i + 1 + 1, _, by go_num, hown, hbel, by omega, by omega, hd⟩
            case measure => simp [intOf]; omega
        · rw [decide_eq_false h92] at qa
          by_cases h10 : P[i] = 10
          · have hd := s3 h92 (.inl h10)
            rw [decide_eq_true h10] at qb
            clear s1 s2 s3 s4 hrel qc h92 h10
            go_wp2
            go_roundw
            case rel => exact ⟨i + 1, _, by go_num, hown, hbel, by omega, by omega, hd⟩
            case measure => simp [intOf]; omega
          · rw [decide_eq_false h10] at qb
            by_cases h13 : P[i] = 13
            · have hd := s3 h92 (.inr h13)
              rw [decide_eq_true h13] at qc
              clear s1 s2 s3 s4 hrel h92 h10 h13
              go_wp2
              go_roundw
              case rel => exact ⟨i + 1, _, by go_num, hown, hbel, by omega, by omega, hd⟩
              case measure => simp [intOf]; omega
            · have hd := s4 h92 h10 h13
              rw [decide_eq_false h13] at qc
              clear s1 s2 s3 s4 hrel h92 h10 h13
              go_wp2_with (at_builtin; refine append_bytes _ rfl (.tmp 61) (.tmp 65) bslT rfl w.heap.size _ _ rfl (hown.alloc _) ⟨_, 0, none⟩ 1 1 [_] rfl rfl (cells_new _ _ _) (by first | omega | (simp; done) | (simp; omega)) (by first | omega | (simp; done) | (simp; omega)) ?_; intro v6 w6 hown6 hg6; have hb6 := Below_grown (hbel.alloc hsz _) (hown.alloc _) hg6 (by first | omega | (simp; done) | (simp; omega)); have hz6 := hb6.size; clear hg6)
              go_roundw
              case rel => exact ⟨i + 1, _, by go_num, hown6, hb6, by omega, by simp; omega, hd⟩
              case measure => simp [intOf]; omega
      · have he : acc = X := by
          have e := hrel.out
          rw [tl_end P i (by omega)] at e
          simpa [ue] using e
        subst he
        have hcv := run_string_owned (P := Tryz.prog) (ts := 9) bslT Tryz.underlying9 hown
        clear hrel
        go_wp2
        go_ret
        exact ⟨rfl, hbel⟩
theorem rvalue_any (k : Int) (T : ByteArray) (w : World) (hs : T.size ≤ 100000000) : Calls Tryz.prog 57 #[.agg #[.int .i64 k, .string T]] w (StrIs (valI k T.data.toList) w) := by
  by_cases h : (k = 2 ∨ k = 3) ∧ 2 ≤ T.size
  · exact rvalue_long k T w hs h.1 h.2
  · exact rvalue_short k T w hs h
end Go.Proofs.YtilccofdphohiaaGreatDoor
namespace Go.Proofs.YtilccofdphohiaaGreatDoor
open Go.RowKit Pk Tk Su Fo

theorem okAt_cases (s : ByteArray) (k : Nat) (h : k < s.size) :
    (atm s[k] = true ∧ s[k] ≠ 32 ∧ okAt s k h = true) ∨
    (atm s[k] = false ∧ s[k] ≠ 32 ∧ okAt s k h = false) ∨
    (atm s[k] = false ∧ s[k] = 32 ∧ k = 0 ∧ okAt s k h = false) ∨
    (atm s[k] = false ∧ s[k] = 32 ∧ 0 < k ∧ ¬ k + 1 < s.size ∧ okAt s k h = false) ∨
    (atm s[k] = false ∧ s[k] = 32 ∧ ∃ (h1 : 0 < k) (h2 : k + 1 < s.size), s[k - 1] = 32 ∧ okAt s k h = false) ∨
    (atm s[k] = false ∧ s[k] = 32 ∧ ∃ (h1 : 0 < k) (h2 : k + 1 < s.size), s[k - 1] ≠ 32 ∧ s[k + 1] = 32 ∧ okAt s k h = false) ∨
    (atm s[k] = false ∧ s[k] = 32 ∧ ∃ (h1 : 0 < k) (h2 : k + 1 < s.size), s[k - 1] ≠ 32 ∧ s[k + 1] ≠ 32 ∧ okAt s k h = true) := by
  by_cases hc : s[k] = 32
  · have ha : atm s[k] = false := by rw [hc]; decide
    have e0 : okAt s k h = (is32 (prev s k) && hd32 (tl s (k + 1))) := by unfold okAt; rw [ha, hc]; rfl
    cases k with
    | zero => exact .inr (.inr (.inl ⟨ha, hc, rfl, by rw [e0]; rfl⟩))
    | succ j =>
      have ep : is32 (prev s (j + 1)) = !(s[j] == 32) := by
        have : prev s (j + 1) = some s[j] := by
          show s.data.toList[j]? = _
          rw [List.getElem?_eq_getElem (by show j < s.size; omega)]; rfl
        rw [this]; rfl
      by_cases h2 : j + 1 + 1 < s.size
      · have eh : hd32 (tl s (j + 1 + 1)) = !(s[j + 1 + 1] == 32) := by rw [tl_cons s _ h2]; rfl
        rw [ep, eh] at e0
        by_cases hp : s[j] = 32
        · exact .inr (.inr (.inr (.inr (.inl ⟨ha, hc, Nat.succ_pos _, h2, hp, by rw [e0, hp]; rfl⟩))))
        · have q : (s[j] == 32) = false := beq_eq_false_iff_ne.2 hp
          by_cases hn : s[j + 1 + 1] = 32
          · exact .inr (.inr (.inr (.inr (.inr (.inl ⟨ha, hc, Nat.succ_pos _, h2, hp, hn, by rw [e0, hn]; simp⟩)))))
          · have q2 : (s[j + 1 + 1] == 32) = false := beq_eq_false_iff_ne.2 hn
            exact .inr (.inr (.inr (.inr (.inr (.inr ⟨ha, hc, Nat.succ_pos _, h2, hp, hn, by rw [e0, q, q2]; rfl⟩)))))
      · have eh : hd32 (tl s (j + 1 + 1)) = false := by rw [tl_end s _ (by omega)]; rfl
        exact .inr (.inr (.inr (.inl ⟨ha, hc, Nat.succ_pos _, h2, by rw [e0, eh, Bool.and_false]⟩)))
  · have q : (s[k] == 32) = false := beq_eq_false_iff_ne.2 hc
    cases ha : atm s[k] with
    | true => exact .inl ⟨rfl, hc, by unfold okAt; rw [ha]; rfl⟩
    | false => exact .inr (.inl ⟨rfl, hc, by unfold okAt; rw [ha, q]; rfl⟩)
theorem rep_step {s : ByteArray} {k : Nat} {acc X : List UInt8} (h : Hid (acc ++ repL (tl s k) = X)) (hk : k < s.size) :
    ((s[k] = 92 ∨ s[k] = 34 ∨ s[k] = 10 ∨ s[k] = 13) → Hid (acc ++ [b8 92] ++ [s[k]] ++ repL (tl s (k + 1)) = X)) ∧ (s[k] ≠ 92 → s[k] ≠ 34 → s[k] ≠ 10 → s[k] ≠ 13 → Hid (acc ++ [s[k]] ++ repL (tl s (k + 1)) = X)) := by
  have e := h.out
  have e1 : repL (s[k] :: tl s (k + 1)) = esc s[k] ++ repL (tl s (k + 1)) := List.flatMap_cons ..
  rw [tl_cons s k hk, e1] at e
  refine ⟨fun h1 => ?_, fun h1 h2 h3 h4 => ?_⟩
  · have : esc s[k] = [92, s[k]] := by unfold esc; rw [if_pos h1]
    rw [this] at e
    show _ = _
    rw [← e, show b8 92 = 92 by decide]; simp
  · have : esc s[k] = [s[k]] := by unfold esc; rw [if_neg (by rintro (x | x | x | x) <;> contradiction)]
    rw [this] at e
    show _ = _
    rw [← e]; simp
theorem rep_end {s : ByteArray} {k : Nat} {acc X : List UInt8} (h : Hid (acc ++ repL (tl s k) = X)) (hk : ¬ k < s.size) : acc = X := by
  have e := h.out
  rw [tl_end s k (by omega)] at e
  simpa [repL] using e
theorem rep_room {s : ByteArray} {k : Nat} {acc X : List UInt8} (h : Hid (acc ++ repL (tl s k) = X)) : acc.length ≤ X.length := by
  have e := h.out
  rw [← e, List.length_append]; omega
set_option maxHeartbeats 8000000 in
set_option maxRecDepth 100000 in
theorem rquote_any (s : ByteArray) (w : World) (hs : s.size ≤ 1000000) : Calls Tryz.prog 44 #[.string s] w (StrIs (quoteL s.data.toList) w) := by
  have h0 : (!(s.toList == ([] : List UInt8))) = !s.data.toList.isEmpty := by
    rw [Lib.toList_data]; cases s.data.toList <;> rfl
  have hst : Hid (OkIs s (!s.data.toList.isEmpty) 0) := ok_start s
  have HQ : Hid (∀ b, quoteL s.data.toList = b → quoteL s.data.toList = b) := fun _ h => h
  obtain ⟨b0, hb0⟩ : ∃ b0, (!s.data.toList.isEmpty) = b0 := ⟨_, rfl⟩
  rw [hb0] at hst
  have hb1 : (!s.toList.isEmpty) = b0 := by rw [Lib.toList_data]; exact hb0
  have hAtm := Lib.hid ratom_any
  go_enter Tryz.func44, Tryz.ntmps44
  go_wp2
  go_loop [3, 4, 5] (fun bv iv _ => ∃ (k : Nat) (b : Bool), k ≤ s.size ∧ bv = .bool b ∧ iv = .int .i64 k ∧ Hid (OkIs s b k)) (fun _ iv _ => s.size - (intOf iv).toNat)
  case atStart => exact ⟨0, b0, by omega, by first | rfl | (rw [← hb1]; simp) | (simp; exact hb1), by first | rfl | trivial, hst⟩
  case round =>
    clear hst hb0 hb1 h0
    obtain ⟨k, b, hk, rfl, rfl, hrel⟩ := hrel
    by_cases hlt : k < s.size
    · have hA := fun w => hAtm.out s[k] w
      have q32 : ((s[k].toNat : Int) == 32) = decide (s[k] = 32) := u8k 32 (by decide)
      rcases okAt_cases s k hlt with ⟨ha, hc, hok⟩ | ⟨ha, hc, hok⟩ | ⟨ha, hc, hk0, hok⟩ | ⟨ha, hc, h1, h2, hok⟩ | ⟨ha, hc, h1, h2, hp, hok⟩ | ⟨ha, hc, h1, h2, hp, hn, hok⟩ | ⟨ha, hc, h1, h2, hp, hn, hok⟩
      · rw [ha] at hA
        rw [decide_eq_false hc] at q32
        have HA := Lib.hid hA
        clear hA hc ha
        have hd := Lib.hid (ok_step hrel.out hlt)
        rw [hok, Bool.and_true] at hd
        clear hrel hok
        go_wp2_with (go_at_call 72; refine (HA.out _).mono ?_; rintro e w' ⟨rfl, rfl⟩)
        go_round
        case rel => exact ⟨k + 1, b, by omega, rfl, by go_num, hd⟩
        case measure => simp [intOf]; omega
      · rw [ha] at hA
        rw [decide_eq_false hc] at q32
        have HA := Lib.hid hA
        clear hA hc ha
        have hd := Lib.hid (ok_step hrel.out hlt)
        rw [hok, Bool.and_false] at hd
        clear hrel hok
        go_wp2_with (go_at_call 72; refine (HA.out _).mono ?_; rintro e w' ⟨rfl, rfl⟩)
        go_round
        case rel => exact ⟨k + 1, false, by omega, rfl, by go_num, hd⟩
        case measure => simp [intOf]; omega
      · rw [ha] at hA
        rw [decide_eq_true hc] at q32
        have HA := Lib.hid hA
        have q0 : decide ((0 : Int) < (k : Int)) = false := decide_eq_false (by omega)
        have q1 : decide (0 < k) = false := decide_eq_false (by omega)
        clear hA hc ha hk0
        have hd := Lib.hid (ok_step hrel.out hlt)
        rw [hok, Bool.and_false] at hd
        clear hrel hok
        go_wp2_with (go_at_call 72; refine (HA.out _).mono ?_; rintro e w' ⟨rfl, rfl⟩)
        go_round
        case rel => exact ⟨k + 1, false, by omega, rfl, by go_num, hd⟩
        case measure => simp [intOf]; omega
      · rw [ha] at hA
        rw [decide_eq_true hc] at q32
        have HA := Lib.hid hA
        have q0 : decide ((0 : Int) < (k : Int)) = true := decide_eq_true (by omega)
        have q1 : decide ((k : Int) + 1 < (s.size : Int)) = false := decide_eq_false (by omega)
        clear hA hc ha
        have hd := Lib.hid (ok_step hrel.out hlt)
        rw [hok, Bool.and_false] at hd
        clear hrel hok
        go_wp2_with (go_at_call 72; refine (HA.out _).mono ?_; rintro e w' ⟨rfl, rfl⟩)
        go_round
        case rel => exact ⟨k + 1, false, by omega, rfl, by go_num, hd⟩
        case measure => simp [intOf]; omega
      · rw [ha] at hA
        rw [decide_eq_true hc] at q32
        have HA := Lib.hid hA
        have q0 : decide ((0 : Int) < (k : Int)) = true := decide_eq_true (by omega)
        have q1 : decide ((k : Int) + 1 < (s.size : Int)) = true := decide_eq_true (by omega)
        have qp : ((s[k - 1].toNat : Int) != 32) = false := by rw [hp]; rfl
        have z3 : ((k : Int) - 1).toNat = k - 1 := by omega
        have z4 : (0 : Int) ≤ (k : Int) - 1 := by omega
        clear hA hc ha hp
        have hd := Lib.hid (ok_step hrel.out hlt)
        rw [hok, Bool.and_false] at hd
        clear hrel hok
        go_wp2_with (go_at_call 72; refine (HA.out _).mono ?_; rintro e w' ⟨rfl, rfl⟩)
        go_round
        case rel => exact ⟨k + 1, false, by omega, rfl, by go_num, hd⟩
        case measure => simp [intOf]; omega
      · rw [ha] at hA
        rw [decide_eq_true hc] at q32
        have HA := Lib.hid hA
        have q0 : decide ((0 : Int) < (k : Int)) = true := decide_eq_true (by omega)
        have q1 : decide ((k : Int) + 1 < (s.size : Int)) = true := decide_eq_true (by omega)
        have qp : ((s[k - 1].toNat : Int) != 32) = true := by unfold bne; rw [show ((s[k - 1].toNat : Int) == 32) = decide (s[k - 1] = 32) from u8k 32 (by decide), decide_eq_false hp]; rfl
        have qn : ((s[k + 1].toNat : Int) != 32) = false := by rw [hn]; rfl
        have z3 : ((k : Int) - 1).toNat = k - 1 := by omega
        have z4 : (0 : Int) ≤ (k : Int) - 1 := by omega
        clear hA hc ha hp hn
        have hd := Lib.hid (ok_step hrel.out hlt)
        rw [hok, Bool.and_false] at hd
        clear hrel hok
        go_wp2_with (go_at_call 72; refine (HA.out _).mono ?_; rintro e w' ⟨rfl, rfl⟩)
        go_round
        case rel => exact ⟨k + 1, false, by omega, rfl, by go_num, hd⟩
        case measure => simp [intOf]; omega
      · rw [ha] at hA
        rw [decide_eq_true hc] at q32
        have HA := Lib.hid hA
        have q0 : decide ((0 : Int) < (k : Int)) = true := decide_eq_true (by omega)
        have q1 : decide ((k : Int) + 1 < (s.size : Int)) = true := decide_eq_true (by omega)
        have qp : ((s[k - 1].toNat : Int) != 32) = true := by unfold bne; rw [show ((s[k - 1].toNat : Int) == 32) = decide (s[k - 1] = 32) from u8k 32 (by decide), decide_eq_false hp]; rfl
        have qn : ((s[k + 1].toNat : Int) != 32) = true := by unfold bne; rw [show ((s[k + 1].toNat : Int) == 32) = decide (s[k + 1] = 32) from u8k 32 (by decide), decide_eq_false hn]; rfl
        have z3 : ((k : Int) - 1).toNat = k - 1 := by omega
        have z4 : (0 : Int) ≤ (k : Int) - 1 := by omega
        clear hA hc ha hp hn
        have hd := Lib.hid (ok_step hrel.out hlt)
        rw [hok, Bool.and_true] at hd
        clear hrel hok
        go_wp2_with (go_at_call 72; refine (HA.out _).mono ?_; rintro e w' ⟨rfl, rfl⟩)
        go_round
        case rel => exact ⟨k + 1, b, by omega, rfl, by go_num, hd⟩
        case measure => simp [intOf]; omega
    · have hq := ok_end hrel.out hlt
      clear hrel
      cases b with
      | true =>
        have hpost : Hid (StrIs (quoteL s.data.toList) w (.returned (.string s)) w) := by
          show StrIs _ _ _ _
          unfold StrIs quoteL
          rw [if_pos hq]
          exact ⟨by simp, Below.refl _ _⟩
        clear hq
        go_wp2
        go_ret
        exact hpost.out
      | false =>
        obtain ⟨X, hX⟩ : ∃ X, X = 34 :: repL s.data.toList := ⟨_, rfl⟩
        have hpost : Hid (∀ w', Below w.heap.size w w' → StrIs (quoteL s.data.toList) w (.returned (.string ⟨(X ++ [b8 34]).toArray⟩)) w') := fun w' hb => by
          unfold StrIs quoteL
          rw [if_neg (by rw [hq]; decide), hX, show b8 34 = 34 by decide]
          exact ⟨rfl, hb⟩
        have hst : Hid ([34] ++ repL (tl s 0) = X) := by show _ = _; rw [hX, tl_zero]; rfl
        have hXl : X.length ≤ 2000001 := by
          have := (rep_length s.data.toList).2
          rw [dataL] at this
          rw [hX, List.length_cons]; omega
        have hown0 := ownsB.lit w [34] 5 1 rfl (by decide)
        clear hq hX
        go_wp2
        go_loopw [6, 7] (fun ov iv wr => ∃ (j : Nat) (acc : List UInt8), iv = .int .i64 j ∧ ownsB wr w.heap.size 5 ov acc ∧ Below w.heap.size w wr ∧ j ≤ s.size ∧ Hid (acc ++ repL (tl s j) = X)) (fun _ iv _ => s.size - (intOf iv).toNat)
        case atStart => exact ⟨0, [34], by first | rfl | trivial, hown0, (Below.refl _ _).alloc (Nat.le_refl _) _, by omega, hst⟩
        case round =>
          clear hst hown0
          obtain ⟨j, acc, rfl, hown, hbel, hj, hrel⟩ := hrel
          have hsz := hbel.size
          have hrm := rep_room hrel
          by_cases hlt : j < s.size
          · obtain ⟨s1, s2⟩ := rep_step hrel hlt
            have q1 : ((s[j].toNat : Int) == 34) = decide (s[j] = 34) := u8k 34 (by decide)
            have q2 : ((s[j].toNat : Int) == 92) = decide (s[j] = 92) := u8k 92 (by decide)
            have q3 : ((s[j].toNat : Int) == 10) = decide (s[j] = 10) := u8k 10 (by decide)
            have q4 : ((s[j].toNat : Int) == 13) = decide (s[j] = 13) := u8k 13 (by decide)
            by_cases c1 : s[j] = 34
            · rw [decide_eq_true c1] at q1
              clear q2 q3 q4
              have hd := s1 (.inr (.inl c1))
              clear s1 s2 hrel c1
              go_wp2_with (first
                | (at_builtin; refine append_bytes _ rfl (.tmp 85) (.tmp 86) bslT rfl w.heap.size _ _ rfl (hown.alloc _) ⟨_, 0, none⟩ 1 1 [b8 _] rfl rfl (cells_byte _ _ _ (by omega) (by omega)) (by first | omega | (simp; done) | (simp; omega)) (by first | omega | (simp; done) | (simp; omega)) ?_; intro v6 w6 hown6 hg6; have hb6 := Below_grown (hbel.alloc hsz _) (hown.alloc _) hg6 (by first | omega | (simp; done) | (simp; omega)); have hz6 := hb6.size; clear hg6)
                | (at_builtin; refine append_bytes _ rfl (.tmp 88) (.tmp 92) bslT rfl w.heap.size _ _ rfl (hown6.alloc _) ⟨_, 0, none⟩ 1 1 [_] rfl rfl (cells_new _ _ _) (by first | omega | (simp; done) | (simp; omega)) (by first | omega | (simp; done) | (simp; omega)) ?_; intro v7 w7 hown7 hg7; have hb7 := Below_grown (hb6.alloc hz6 _) (hown6.alloc _) hg7 (by first | omega | (simp; done) | (simp; omega)); have hz7 := hb7.size; clear hg7))
              go_roundw
              case rel => exact ⟨j + 1, _, by go_num, hown7, hb7, by omega, hd⟩
              case measure => simp [intOf]; omega
            · rw [decide_eq_false c1] at q1
              by_cases c2 : s[j] = 92
              · rw [decide_eq_true c2] at q2
                clear q3 q4
                have hd := s1 (.inl c2)
                clear s1 s2 hrel c1 c2
                go_wp2_with (first
                  | (at_builtin; refine append_bytes _ rfl (.tmp 85) (.tmp 86) bslT rfl w.heap.size _ _ rfl (hown.alloc _) ⟨_, 0, none⟩ 1 1 [b8 _] rfl rfl (cells_byte _ _ _ (by omega) (by omega)) (by first | omega | (simp; done) | (simp; omega)) (by first | omega | (simp; done) | (simp; omega)) ?_; intro v6 w6 hown6 hg6; have hb6 := Below_grown (hbel.alloc hsz _) (hown.alloc _) hg6 (by first | omega | (simp; done) | (simp; omega)); have hz6 := hb6.size; clear hg6)
                  | (at_builtin; refine append_bytes _ rfl (.tmp 88) (.tmp 92) bslT rfl w.heap.size _ _ rfl (hown6.alloc _) ⟨_, 0, none⟩ 1 1 [_] rfl rfl (cells_new _ _ _) (by first | omega | (simp; done) | (simp; omega)) (by first | omega | (simp; done) | (simp; omega)) ?_; intro v7 w7 hown7 hg7; have hb7 := Below_grown (hb6.alloc hz6 _) (hown6.alloc _) hg7 (by first | omega | (simp; done) | (simp; omega)); have hz7 := hb7.size; clear hg7))
                go_roundw
                case rel => exact ⟨j + 1, _, by go_num, hown7, hb7, by omega, hd⟩
                case measure => simp [intOf]; omega
              · rw [decide_eq_false c2] at q2
                by_cases c3 : s[j] = 10
                · rw [decide_eq_true c3] at q3
                  clear q4
                  have hd := s1 (.inr (.inr (.inl c3)))
                  clear s1 s2 hrel c1 c2 c3
                  go_wp2_with (first
                    | (at_builtin; refine append_bytes _ rfl (.tmp 85) (.tmp 86) bslT rfl w.heap.size _ _ rfl (hown.alloc _) ⟨_, 0, none⟩ 1 1 [b8 _] rfl rfl (cells_byte _ _ _ (by omega) (by omega)) (by first | omega | (simp; done) | (simp; omega)) (by first | omega | (simp; done) | (simp; omega)) ?_; intro v6 w6 hown6 hg6; have hb6 := Below_grown (hbel.alloc hsz _) (hown.alloc _) hg6 (by first | omega | (simp; done) | (simp; omega)); have hz6 := hb6.size; clear hg6)
                    | (at_builtin; refine append_bytes _ rfl (.tmp 88) (.tmp 92) bslT rfl w.heap.size _ _ rfl (hown6.alloc _) ⟨_, 0, none⟩ 1 1 [_] rfl rfl (cells_new _ _ _) (by first | omega | (simp; done) | (simp; omega)) (by first | omega | (simp; done) | (simp; omega)) ?_; intro v7 w7 hown7 hg7; have hb7 := Below_grown (hb6.alloc hz6 _) (hown6.alloc _) hg7 (by first | omega | (simp; done) | (simp; omega)); have hz7 := hb7.size; clear hg7))
                  go_roundw
                  case rel => exact ⟨j + 1, _, by go_num, hown7, hb7, by omega, hd⟩
                  case measure => simp [intOf]; omega
                · rw [decide_eq_false c3] at q3
                  by_cases c4 : s[j] = 13
                  · rw [decide_eq_true c4] at q4
                    have hd := s1 (.inr (.inr (.inr c4)))
                    clear s1 s2 hrel c1 c2 c3 c4
                    go_wp2_with (first
                      | (at_builtin; refine append_bytes _ rfl (.tmp 85) (.tmp 86) bslT rfl w.heap.size _ _ rfl (hown.alloc _) ⟨_, 0, none⟩ 1 1 [b8 _] rfl rfl (cells_byte _ _ _ (by omega) (by omega)) (by first | omega | (simp; done) | (simp; omega)) (by first | omega | (simp; done) | (simp; omega)) ?_; intro v6 w6 hown6 hg6; have hb6 := Below_grown (hbel.alloc hsz _) (hown.alloc _) hg6 (by first | omega | (simp; done) | (simp; omega)); have hz6 := hb6.size; clear hg6)
                      | (at_builtin; refine append_bytes _ rfl (.tmp 88) (.tmp 92) bslT rfl w.heap.size _ _ rfl (hown6.alloc _) ⟨_, 0, none⟩ 1 1 [_] rfl rfl (cells_new _ _ _) (by first | omega | (simp; done) | (simp; omega)) (by first | omega | (simp; done) | (simp; omega)) ?_; intro v7 w7 hown7 hg7; have hb7 := Below_grown (hb6.alloc hz6 _) (hown6.alloc _) hg7 (by first | omega | (simp; done) | (simp; omega)); have hz7 := hb7.size; clear hg7))
                    go_roundw
                    case rel => exact ⟨j + 1, _, by go_num, hown7, hb7, by omega, hd⟩
                    case measure => simp [intOf]; omega
                  · rw [decide_eq_false c4] at q4
                    have hd := s2 c2 c1 c3 c4
                    clear s1 s2 hrel c1 c2 c3 c4
                    go_wp2_with (at_builtin; refine append_bytes _ rfl (.tmp 88) (.tmp 92) bslT rfl w.heap.size _ _ rfl (hown.alloc _) ⟨_, 0, none⟩ 1 1 [_] rfl rfl (cells_new _ _ _) (by first | omega | (simp; done) | (simp; omega)) (by first | omega | (simp; done) | (simp; omega)) ?_; intro v7 w7 hown7 hg7; have hb7 := Below_grown (hbel.alloc hsz _) (hown.alloc _) hg7 (by first | omega | (simp; done) | (simp; omega)); have hz7 := hb7.size; clear hg7)
                    go_roundw
                    case rel => exact ⟨j + 1, _, by go_num, hown7, hb7, by omega, hd⟩
                    case measure => simp [intOf]; omega
          · have he := rep_end hrel hlt
            subst he
            clear hrel
            go_wp2_with ((at_builtin; refine append_bytes _ rfl (.tmp 94) (.tmp 95) bslT rfl w.heap.size _ _ rfl (hown.alloc _) ⟨_, 0, none⟩ 1 1 [b8 _] rfl rfl (cells_byte _ _ _ (by omega) (by omega)) (by first | omega | (simp; done) | (simp; omega)) (by first | omega | (simp; done) | (simp; omega)) ?_; intro v7 w7 hown7 hg7; have hb7 := Below_grown (hbel.alloc hsz _) (hown.alloc _) hg7 (by first | omega | (simp; done) | (simp; omega)); have hz7 := hb7.size; clear hg7); have hcv := run_string_owned (P := Tryz.prog) (ts := 9) bslT Tryz.underlying9 hown7)
            go_ret
            exact hpost.out _ hb7
end Go.Proofs.YtilccofdphohiaaGreatDoor
