/- Walks: the reference of tokens: blank, special, atom, end. Walks: the reference of tokens: end, front. -/
import Derived.Test.YtlhmdooeffmedaaGreatDoorR10P
import Derived.Test.YtlhmdooeffmedaaGreatDoorShelf
import Derived.Test.YtlhmdooeffmedaaGreatDoorRows
import Derived.Test.YtlhmdooeffmedaaGreatDoorTk2
import Derived.Test.YtlhmdooeffmedaaGreatDoorTk3
import Derived.Test.YtlhmdooeffmedaaGreatDoorStrK
namespace Go.Proofs.YtlhmdooeffmedaaGreatDoor
open Go.RowKit Pk Tk Su

set_option maxRecDepth 100000 in
theorem rblank_any (c : UInt8) (w : World) : Calls Tryz.prog 31 #[.int .u8 c.toNat] w fun e w' => e = .returned (.bool (Su.blk c)) ∧ w = w' := by
  rw [blk_bool c]
  cases h1 : ((c.toNat : Int) == 9)
  · cases h2 : ((c.toNat : Int) == 10)
    · cases h3 : ((c.toNat : Int) == 13)
      · cases h4 : ((c.toNat : Int) == 32)
        all_goals
          go_enter Tryz.func31, Tryz.ntmps31
          go_wp2
          go_ret
          exact ⟨rfl, rfl⟩
      · go_enter Tryz.func31, Tryz.ntmps31
        go_wp2
        go_ret
        exact ⟨rfl, rfl⟩
    · go_enter Tryz.func31, Tryz.ntmps31
      go_wp2
      go_ret
      exact ⟨rfl, rfl⟩
  · go_enter Tryz.func31, Tryz.ntmps31
    go_wp2
    go_ret
    exact ⟨rfl, rfl⟩
/-- none of the first k specials is c, or the answer is yes -/
def SpcIs (c : UInt8) (k : Nat) : Prop := (specL.drop k).contains c = spec c
theorem spc_step {c : UInt8} {k : Nat} (h : SpcIs c k) (hk : k < specL.length) : (specL[k] = c → spec c = true) ∧ (specL[k] ≠ c → SpcIs c (k + 1)) := by
  unfold SpcIs at *
  rw [List.drop_eq_getElem_cons hk, List.contains_cons] at h
  refine ⟨fun h1 => ?_, fun h1 => ?_⟩
  · rw [← h, beq_iff_eq.2 h1.symm]; rfl
  · rw [beq_eq_false_iff_ne.2 (fun e => h1 e.symm), Bool.false_or] at h; exact h
theorem spc_end {c : UInt8} {k : Nat} (h : SpcIs c k) (hk : ¬ k < 13) : spec c = false := by
  unfold SpcIs at h
  rw [List.drop_eq_nil_of_le (show specL.length ≤ k by show 13 ≤ k; omega)] at h
  rw [← h]; rfl
theorem specS_at (k : Nat) (h : k < specL.length) : (⟨#[40, 41, 60, 62, 91, 93, 58, 59, 64, 92, 44, 46, 34]⟩ : ByteArray)[k]'h = specL[k] := rfl
set_option maxHeartbeats 1000000 in
set_option maxRecDepth 100000 in
theorem rspec_any (c : UInt8) (w : World) : Calls Tryz.prog 33 #[.int .u8 c.toNat] w fun e w' => e = .returned (.bool (spec c)) ∧ w = w' := by
  go_enter Tryz.func33, Tryz.ntmps33
  go_wp2
  go_loop [3] (fun iv => ∃ k : Nat, k ≤ 13 ∧ iv = .int .i64 k ∧ Hid (SpcIs c k)) (fun iv => 13 - (intOf iv).toNat)
  case atStart => exact ⟨0, by omega, by first | rfl | trivial, rfl⟩
  case round =>
    obtain ⟨k, hk, rfl, hrel⟩ := hrel
    by_cases hlt : k < 13
    · obtain ⟨s1, s2⟩ := spc_step hrel.out hlt
      have he := specS_at k hlt
      obtain ⟨d, hd⟩ : ∃ d, specL[k]'hlt = d := ⟨_, rfl⟩
      rw [hd] at he s1 s2
      clear hd
      by_cases hc : d = c
      · have q : ((d.toNat : Int) == (c.toNat : Int)) = true := u8y hc
        have H := Lib.hid (s1 hc)
        clear s1 s2 hc hrel
        go_wp2
        go_ret
        exact ⟨by rw [H.out]; rfl, rfl⟩
      · have q : ((d.toNat : Int) == (c.toNat : Int)) = false := u8n hc
        have H := Lib.hid (s2 hc)
        clear s1 s2 hc hrel
        go_wp2
        go_round
        case rel => exact ⟨k + 1, by omega, by go_num, H⟩
        case measure => simp [intOf]; omega
    · have H := Lib.hid (spc_end hrel.out hlt)
      obtain rfl : k = 13 := by omega
      clear hrel
      go_wp2
      go_ret
      exact ⟨by rw [H.out]; rfl, rfl⟩
set_option maxRecDepth 100000 in
theorem ratom_any (c : UInt8) (w : World) : Calls Tryz.prog 24 #[.int .u8 c.toNat] w fun e w' => e = .returned (.bool (atm c)) ∧ w = w' := by
  have hI := rspec_any c
  have ha : atm c = (decide (32 < c.toNat) && !(c == 127) && !(spec c)) := rfl
  generalize spec c = b at hI ha
  have HI := Lib.hid hI
  have hc := c.toNat_lt
  clear hI
  by_cases h1 : 32 < c.toNat
  · by_cases h2 : c = 127
    · have e : atm c = false := by rw [ha, h2]; simp
      have q : ((c.toNat : Int) != 127) = false := by rw [h2]; rfl
      clear ha h2
      rw [e]
      clear e
      go_enter Tryz.func24, Tryz.ntmps24
      go_wp2_with (go_at_call 33; refine (HI.out _).mono ?_; rintro e w' ⟨rfl, rfl⟩)
      go_ret
      exact ⟨rfl, rfl⟩
    · have e : atm c = !b := by rw [ha, decide_eq_true h1, beq_eq_false_iff_ne.2 h2]; simp
      have q : ((c.toNat : Int) != 127) = true := by
        rw [bne_iff_ne]; intro e; apply h2; rw [← UInt8.toNat_inj]; exact_mod_cast e
      clear ha h2
      rw [e]
      clear e
      go_enter Tryz.func24, Tryz.ntmps24
      go_wp2_with (go_at_call 33; refine (HI.out _).mono ?_; rintro e w' ⟨rfl, rfl⟩)
      go_ret
      exact ⟨rfl, rfl⟩
  · have e : atm c = false := by rw [ha, decide_eq_false h1]; rfl
    clear ha
    rw [e]
    clear e
    go_enter Tryz.func24, Tryz.ntmps24
    go_wp2_with (go_at_call 33; refine (HI.out _).mono ?_; rintro e w' ⟨rfl, rfl⟩)
    go_ret
    exact ⟨rfl, rfl⟩
def endV (close : UInt8) (s : ByteArray) : Nat := match cloX close s with
  | some m => m
  | none => 0
def EndRet (close : UInt8) (s : ByteArray) (w : World) (e : Ending) (w' : World) : Prop := e = .returned (.int .i64 (endV close s : Nat)) ∧ w = w'
theorem end_yes {close : UInt8} {s : ByteArray} {k : Nat} {w : World} (h : cloX close s = some (k + 1)) {n : Int} (hn : n = (k : Int) + 1) : EndRet close s w (.returned (.int .i64 n)) w := by
  unfold EndRet endV; rw [h]; subst hn; exact ⟨rfl, rfl⟩
theorem end_no {close : UInt8} {s : ByteArray} {w : World} (h : cloX close s = none) : EndRet close s w (.returned (.int .i64 0)) w := by
  unfold EndRet endV; rw [h]; exact ⟨rfl, rfl⟩
/-- by what a token opens, what closes it -/
def pairs (o close : UInt8) : Prop := (o = 40 ∧ close = 41) ∨ (o = 34 ∧ close = 34) ∨ (o = 91 ∧ close = 93)
end Go.Proofs.YtlhmdooeffmedaaGreatDoor
namespace Go.Proofs.YtlhmdooeffmedaaGreatDoor
open Go.RowKit Pk Tk Su

theorem k40 {a : UInt8} (h : a = 40) : ((a.toNat : Int) == 40) = true ∧ ((a.toNat : Int) == 34) = false ∧ ((a.toNat : Int) == 91) = false := by subst h; exact ⟨by decide, by decide, by decide⟩
theorem k34 {a : UInt8} (h : a = 34) : ((a.toNat : Int) == 40) = false ∧ ((a.toNat : Int) == 34) = true ∧ ((a.toNat : Int) == 91) = false := by subst h; exact ⟨by decide, by decide, by decide⟩
theorem k91 {a : UInt8} (h : a = 91) : ((a.toNat : Int) == 40) = false ∧ ((a.toNat : Int) == 34) = false ∧ ((a.toNat : Int) == 91) = true := by subst h; exact ⟨by decide, by decide, by decide⟩
theorem kno {a : UInt8} (h1 : a ≠ 40) (h2 : a ≠ 34) (h3 : a ≠ 91) : ((a.toNat : Int) == 40) = false ∧ ((a.toNat : Int) == 34) = false ∧ ((a.toNat : Int) == 91) = false :=
  ⟨(show ((a.toNat : Int) == 40) = decide (a = 40) from u8k 40 (by decide)).trans (decide_eq_false h1), (show ((a.toNat : Int) == 34) = decide (a = 34) from u8k 34 (by decide)).trans (decide_eq_false h2), (show ((a.toNat : Int) == 91) = decide (a = 91) from u8k 91 (by decide)).trans (decide_eq_false h3)⟩
theorem ext_all (s : ByteArray) : s.extract 0 s.size = s := by
  rw [ext_to, List.take_of_length_le (show s.data.toList.length ≤ s.size from Nat.le_refl _)]
set_option maxHeartbeats 4000000 in
set_option maxRecDepth 100000 in
theorem end40 (s : ByteArray) (w : World) (h0 : 0 < s.size) (hs : s.size ≤ 100000000) (ho : s[0] = 40) : Calls Tryz.prog 32 #[.string s] w (EndRet 41 s w) := by
  obtain ⟨o1, o2, o3⟩ := k40 ho
  clear ho
  go_enter Tryz.func32, Tryz.ntmps32
  go_wp2
  go_loop [3, 4] (fun dv iv => ∃ (k d : Nat), iv = .int .i64 k ∧ dv = .int .i64 ((d : Int) - 1) ∧ 1 ≤ k ∧ k ≤ s.size + 1 ∧ 1 ≤ d ∧ d ≤ k ∧ Hid (CloIs 41 d k s)) (fun _ iv => s.size + 1 - (intOf iv).toNat)
  case atStart => exact ⟨1, 1, rfl, by first | rfl | trivial, by omega, by omega, by omega, by omega, rfl⟩
  case round =>
    obtain ⟨k, d, rfl, rfl, hk1, hk, hd1, hdk, hrel⟩ := hrel
    by_cases hlt : k < s.size
    · obtain ⟨s1, s2, s3, s4, s5⟩ := clo_step hrel.out hlt
      have qa : ((s[k].toNat : Int) == 92) = decide (s[k] = 92) := u8k 92 (by decide)
      have qb : ((s[k].toNat : Int) == 41) = decide (s[k] = 41) := u8k 41 (by decide)
      have qc : ((s[k].toNat : Int) == 40) = decide (s[k] = 40) := u8k 40 (by decide)
      by_cases h92 : s[k] = 92
      · have H := Lib.hid (s1 h92)
        rw [decide_eq_true h92] at qa
        clear s1 s2 s3 s4 s5 hrel qb qc h92
        go_wp2
        go_round
        case rel => exact ⟨k + 1 + 1, d, by go_num, rfl, by omega, by omega, by omega, by omega, H⟩
        case measure => simp [intOf]; omega
      · rw [decide_eq_false h92] at qa
        by_cases h41 : s[k] = 41
        · rw [decide_eq_true h41] at qb
          rw [decide_eq_false (by rw [h41]; decide)] at qc
          by_cases h1 : d = 1
          · have H := Lib.hid (end_yes (w := w) (s2 h92 h41 h1) rfl)
            have q0 : ((d : Int) - 1 == 0) = true := beq_iff_eq.2 (by omega)
            clear s1 s2 s3 s4 s5 hrel h92 h41 h1
            go_wp2
            go_ret
            exact H.out
          · have H := Lib.hid (s3 h92 h41 h1)
            have q0 : ((d : Int) - 1 == 0) = false := beq_eq_false_iff_ne.2 (by omega)
            clear s1 s2 s3 s4 s5 hrel h92 h41
            go_wp2
            go_round
            case rel => exact ⟨k + 1, d - 1, by go_num, by first | go_num | (congr 1; omega), by omega, by omega, by omega, by omega, H⟩
            case measure => simp [intOf]; omega
        · rw [decide_eq_false h41] at qb
          by_cases h40 : s[k] = 40
          · rw [decide_eq_true h40] at qc
            have H := Lib.hid (s4 h92 h41 h40 rfl)
            clear s1 s2 s3 s4 s5 hrel h92 h41 h40
            go_wp2
            go_round
            case rel => exact ⟨k + 1, d + 1, by go_num, by first | go_num | (congr 1; omega) | (simp; done), by omega, by omega, by omega, by omega, H⟩
            case measure => simp [intOf]; omega
          · rw [decide_eq_false h40] at qc
            have H := Lib.hid (s5 h92 h41 (.inl h40))
            clear s1 s2 s3 s4 s5 hrel h92 h41 h40
            go_wp2
            go_round
            case rel => exact ⟨k + 1, d, by go_num, rfl, by omega, by omega, by omega, by omega, H⟩
            case measure => simp [intOf]; omega
    · have H := Lib.hid (end_no (w := w) (clo_end hrel.out hlt))
      clear hrel
      go_wp2
      go_ret
      exact H.out
set_option maxHeartbeats 4000000 in
set_option maxRecDepth 100000 in
theorem end34 (s : ByteArray) (w : World) (h0 : 0 < s.size) (hs : s.size ≤ 100000000) (ho : s[0] = 34) : Calls Tryz.prog 32 #[.string s] w (EndRet 34 s w) := by
  obtain ⟨o1, o2, o3⟩ := k34 ho
  clear ho
  go_enter Tryz.func32, Tryz.ntmps32
  go_wp2
  go_loop [3, 4] (fun dv iv => ∃ k : Nat, iv = .int .i64 k ∧ dv = .int .i64 0 ∧ 1 ≤ k ∧ k ≤ s.size + 1 ∧ Hid (CloIs 34 1 k s)) (fun _ iv => s.size + 1 - (intOf iv).toNat)
  case atStart => exact ⟨1, rfl, by first | rfl | trivial, by omega, by omega, rfl⟩
  case round =>
    obtain ⟨k, rfl, rfl, hk1, hk, hrel⟩ := hrel
    by_cases hlt : k < s.size
    · obtain ⟨s1, s2, s3, s4, s5⟩ := clo_step hrel.out hlt
      have qa : ((s[k].toNat : Int) == 92) = decide (s[k] = 92) := u8k 92 (by decide)
      have qb : ((s[k].toNat : Int) == 34) = decide (s[k] = 34) := u8k 34 (by decide)
      by_cases h92 : s[k] = 92
      · have H := Lib.hid (s1 h92)
        rw [decide_eq_true h92] at qa
        clear s1 s2 s3 s4 s5 hrel qb h92
        go_wp2
        go_round
        case rel => exact ⟨k + 1 + 1, by go_num, rfl, by omega, by omega, H⟩
        case measure => simp [intOf]; omega
      · rw [decide_eq_false h92] at qa
        by_cases hc : s[k] = 34
        · rw [decide_eq_true hc] at qb
          have H := Lib.hid (end_yes (w := w) (s2 h92 hc rfl) rfl)
          clear s1 s2 s3 s4 s5 hrel h92 hc
          go_wp2
          go_ret
          exact H.out
        · rw [decide_eq_false hc] at qb
          have H := Lib.hid (s5 h92 hc (.inr (by decide)))
          clear s1 s2 s3 s4 s5 hrel h92 hc
          go_wp2
          go_round
          case rel => exact ⟨k + 1, by go_num, rfl, by omega, by omega, H⟩
          case measure => simp [intOf]; omega
    · have H := Lib.hid (end_no (w := w) (clo_end hrel.out hlt))
      clear hrel
      go_wp2
      go_ret
      exact H.out
set_option maxHeartbeats 4000000 in
set_option maxRecDepth 100000 in
theorem end91 (s : ByteArray) (w : World) (h0 : 0 < s.size) (hs : s.size ≤ 100000000) (ho : s[0] = 91) : Calls Tryz.prog 32 #[.string s] w (EndRet 93 s w) := by
  obtain ⟨o1, o2, o3⟩ := k91 ho
  clear ho
  go_enter Tryz.func32, Tryz.ntmps32
  go_wp2
  go_loop [3, 4] (fun dv iv => ∃ k : Nat, iv = .int .i64 k ∧ dv = .int .i64 0 ∧ 1 ≤ k ∧ k ≤ s.size + 1 ∧ Hid (CloIs 93 1 k s)) (fun _ iv => s.size + 1 - (intOf iv).toNat)
  case atStart => exact ⟨1, rfl, by first | rfl | trivial, by omega, by omega, rfl⟩
  case round =>
    obtain ⟨k, rfl, rfl, hk1, hk, hrel⟩ := hrel
    by_cases hlt : k < s.size
    · obtain ⟨s1, s2, s3, s4, s5⟩ := clo_step hrel.out hlt
      have qa : ((s[k].toNat : Int) == 92) = decide (s[k] = 92) := u8k 92 (by decide)
      have qb : ((s[k].toNat : Int) == 93) = decide (s[k] = 93) := u8k 93 (by decide)
      by_cases h92 : s[k] = 92
      · have H := Lib.hid (s1 h92)
        rw [decide_eq_true h92] at qa
        clear s1 s2 s3 s4 s5 hrel qb h92
        go_wp2
        go_round
        case rel => exact ⟨k + 1 + 1, by go_num, rfl, by omega, by omega, H⟩
        case measure => simp [intOf]; omega
      · rw [decide_eq_false h92] at qa
        by_cases hc : s[k] = 93
        · rw [decide_eq_true hc] at qb
          have H := Lib.hid (end_yes (w := w) (s2 h92 hc rfl) rfl)
          clear s1 s2 s3 s4 s5 hrel h92 hc
          go_wp2
          go_ret
          exact H.out
        · rw [decide_eq_false hc] at qb
          have H := Lib.hid (s5 h92 hc (.inr (by decide)))
          clear s1 s2 s3 s4 s5 hrel h92 hc
          go_wp2
          go_round
          case rel => exact ⟨k + 1, by go_num, rfl, by omega, by omega, H⟩
          case measure => simp [intOf]; omega
    · have H := Lib.hid (end_no (w := w) (clo_end hrel.out hlt))
      clear hrel
      go_wp2
      go_ret
      exact H.out
def FrRetR (s : ByteArray) (w : World) (e : Ending) (w' : World) : Prop := e = .returned (.agg #[.int .i64 ((frS s).1 : Nat), .string (s.extract 0 (frS s).2)]) ∧ Below w.heap.size w w'
theorem frR_end {s : ByteArray} {w w' : World} {k n : Nat} (e : frS s = (k, n)) (hb : Below w.heap.size w w') : FrRetR s w (.returned (.agg #[.int .i64 (k : Nat), .string (s.extract 0 n)])) w' := by
  unfold FrRetR; rw [e]; exact ⟨rfl, hb⟩
theorem tw_no {p : UInt8 → Bool} {s : ByteArray} (h0 : 0 < s.size) (h : p s[0] = false) : (s.data.toList.takeWhile p).length = 0 := by
  rw [data_cons s h0, List.takeWhile_cons, if_neg (by rw [h]; decide)]; rfl
set_option maxHeartbeats 4000000 in
set_option maxRecDepth 100000 in
theorem rfront_any (s : ByteArray) (w : World) (h0 : 0 < s.size) (hs : s.size ≤ 100000000) : Calls Tryz.prog 18 #[.string s] w (FrRetR s w) := by
  have hr : 1 ≤ (frS s).2 ∧ (frS s).2 ≤ s.size := fr_rng (l := s.data.toList) (fun e => by have : s.data.toList.length = s.size := rfl; rw [e] at this; simp at this; omega)
  have hB := rblank_any s[0]
  have hI := rspec_any s[0]
  rcases fr_cases s h0 with ⟨b, e⟩ | ⟨b, e1, e⟩ | ⟨b, e1, e⟩ | ⟨b, e1, e⟩ | ⟨b, e1, e2, e3, e4, e⟩ | ⟨b, e1, e2, e3, e4, e5, e⟩ | ⟨b, e1, e2, e3, e4, e5, e⟩
  · clear hB hI
    rw [e] at hr
    have hst : Hid (RowIs Su.blk s 0) := show 0 + _ = _ by rw [tl_zero, Nat.zero_add]
    have HF := Lib.hid rblank_any
    obtain ⟨N, hN⟩ : ∃ N, (s.data.toList.takeWhile Su.blk).length = N := ⟨_, rfl⟩
    rw [hN] at e hr
    have FE := Lib.hid (fun w' hb => frR_end (w := w) (w' := w') e hb)
    have HN := Lib.hid hN
    obtain ⟨r1, r2⟩ := hr
    have r1 : 1 ≤ N := r1
    have r2 : N ≤ s.size := r2
    clear e b hN
    go_enter Tryz.func18, Tryz.ntmps18
    go_wp2
    go_loop [3] (fun iv => ∃ k : Nat, k ≤ s.size ∧ iv = .int .i64 k ∧ Hid (RowIs Su.blk s k)) (fun iv => s.size - (intOf iv).toNat)
    case atStart => exact ⟨0, by omega, by first | rfl | trivial, hst⟩
    case round =>
      clear hst
      obtain ⟨k, hk, rfl, hrel⟩ := hrel
      by_cases hlt : k < s.size
      · obtain ⟨s1, s2⟩ := row_step hrel.out hlt
        have hF := fun w => (HF.out s[k] w)
        cases hp : Su.blk s[k] with
        | true =>
          have hd := Lib.hid (s1 hp)
          rw [hp] at hF
          have HF2 := Lib.hid hF
          clear s1 s2 hF hp hrel
          go_wp2_with (go_at_call 31; refine (HF2.out _).mono ?_; rintro e w' ⟨rfl, rfl⟩)
          go_round
          case rel => exact ⟨k + 1, by omega, by go_num, hd⟩
          case measure => simp [intOf]; omega
        | false =>
          have hkN := s2 hp
          rw [HN.out] at hkN
          rw [hp] at hF
          have HF2 := Lib.hid hF
          subst hkN
          clear s1 s2 hF hp hrel
          go_wp2_with (go_at_call 31; refine (HF2.out _).mono ?_; rintro e w' ⟨rfl, rfl⟩)
          exact bodyPost_ret (v := .agg #[.int .i64 (6 : Nat), .string (s.extract 0 N)]) (by simp [results, Tryz.results18, go_sem]) rfl (FE.out _ ((Below.refl _ _).alloc (Nat.le_refl _) _))
      · have hkN := row_end hrel.out hlt hk
        rw [HN.out] at hkN
        obtain rfl : N = s.size := by omega
        obtain rfl : k = s.size := by omega
        have FE := FE.out
        rw [ext_all] at FE
        have FE := Lib.hid FE
        have hx := ext_all s
        clear hrel HN
        go_wp2
        exact bodyPost_ret (v := .agg #[.int .i64 (6 : Nat), .string s]) (by simp [results, Tryz.results18, go_sem, hx]) rfl (FE.out _ ((Below.refl _ _).alloc (Nat.le_refl _) _))
  · rw [b] at hB
    have HB := Lib.hid hB
    obtain ⟨q1, q2, q3⟩ := k40 e1
    have hC : ∀ w, Calls Tryz.prog 32 #[.string s] w (EndRet 41 s w) := fun w => end40 s w h0 hs e1
    rw [cls_X 3 41 s h0] at e
    unfold EndRet endV at hC
    cases hX : cloX 41 s with
    | some n =>
      rw [hX] at e hC
      have e : frS s = (3, n) := e
      rw [e] at hr
      have hC : ∀ w, Calls Tryz.prog 32 #[.string s] w fun e w' => e = .returned (.int .i64 (n : Nat)) ∧ w = w' := hC
      have HC := Lib.hid hC
      have FE := Lib.hid (fun w' hb => frR_end (w := w) (w' := w') e hb)
      have z1 : (0 : Int) ≤ (n : Int) := by omega
      have z2 : (n : Int) ≤ (s.size : Int) := by have := hr.2; omega
      have z3 : ((n : Int) == 0) = false := beq_eq_false_iff_ne.2 (by have := hr.1; omega)
      clear hB hI hC e e1 b hX hr
      go_enter Tryz.func18, Tryz.ntmps18
      go_wp2
      go_loop [3] (fun iv => iv = .int .i64 0) (fun _ => 0)
      case atStart => first | rfl | trivial
      case round =>
        obtain rfl := hrel
        go_wp2_with (first
          | (go_at_call 31; refine (HB.out _).mono ?_; rintro e w' ⟨rfl, rfl⟩)
          | (go_at_call 32; refine (HC.out _).mono ?_; rintro e w' ⟨rfl, rfl⟩))
        exact bodyPost_ret (v := .agg #[.int .i64 (3 : Nat), .string (s.extract 0 n)]) (by simp [results, Tryz.results18, go_sem]) rfl (FE.out _ ((Below.refl _ _).alloc (Nat.le_refl _) _))
    | none =>
      rw [hX] at e hC
      have hC : ∀ w, Calls Tryz.prog 32 #[.string s] w fun e w' => e = .returned (.int .i64 0) ∧ w = w' := hC
      have HC := Lib.hid hC
      have e : frS s = (7, s.size) := e
      have FE0 := (fun w' hb => frR_end (w := w) (w' := w') e hb)
      rw [ext_all] at FE0
      have FE := Lib.hid FE0
      clear hB hI hC e e1 b hX hr FE0
      go_enter Tryz.func18, Tryz.ntmps18
      go_wp2
      go_loop [3] (fun iv => iv = .int .i64 0) (fun _ => 0)
      case atStart => first | rfl | trivial
      case round =>
        obtain rfl := hrel
        go_wp2_with (first
          | (go_at_call 31; refine (HB.out _).mono ?_; rintro e w' ⟨rfl, rfl⟩)
          | (go_at_call 32; refine (HC.out _).mono ?_; rintro e w' ⟨rfl, rfl⟩))
        exact bodyPost_ret (v := .agg #[.int .i64 (7 : Nat), .string s]) (by simp [results, Tryz.results18, go_sem]) rfl (FE.out _ ((Below.refl _ _).alloc (Nat.le_refl _) _))
  · rw [b] at hB
    have HB := Lib.hid hB
    obtain ⟨q1, q2, q3⟩ := k34 e1
    have hC : ∀ w, Calls Tryz.prog 32 #[.string s] w (EndRet 34 s w) := fun w => end34 s w h0 hs e1
    rw [cls_X 2 34 s h0] at e
    unfold EndRet endV at hC
    cases hX : cloX 34 s with
    | some n =>
      rw [hX] at e hC
      have e : frS s = (2, n) := e
      rw [e] at hr
      have hC : ∀ w, Calls Tryz.prog 32 #[.string s] w fun e w' => e = .returned (.int .i64 (n : Nat)) ∧ w = w' := hC
      have HC := Lib.hid hC
      have FE := Lib.hid (fun w' hb => frR_end (w := w) (w' := w') e hb)
      have z1 : (0 : Int) ≤ (n : Int) := by omega
      have z2 : (n : Int) ≤ (s.size : Int) := by have := hr.2; omega
      have z3 : ((n : Int) == 0) = false := beq_eq_false_iff_ne.2 (by have := hr.1; omega)
      clear hB hI hC e e1 b hX hr
      go_enter Tryz.func18, Tryz.ntmps18
      go_wp2
      go_loop [3] (fun iv => iv = .int .i64 0) (fun _ => 0)
      case atStart => first | rfl | trivial
      case round =>
        obtain rfl := hrel
        go_wp2_with (first
          | (go_at_call 31; refine (HB.out _).mono ?_; rintro e w' ⟨rfl, rfl⟩)
          | (go_at_call 32; refine (HC.out _).mono ?_; rintro e w' ⟨rfl, rfl⟩))
        exact bodyPost_ret (v := .agg #[.int .i64 (2 : Nat), .string (s.extract 0 n)]) (by simp [results, Tryz.results18, go_sem]) rfl (FE.out _ ((Below.refl _ _).alloc (Nat.le_refl _) _))
    | none =>
      rw [hX] at e hC
      have hC : ∀ w, Calls Tryz.prog 32 #[.string s] w fun e w' => e = .returned (.int .i64 0) ∧ w = w' := hC
      have HC := Lib.hid hC
      have e : frS s = (7, s.size) := e
      have FE0 := (fun w' hb => frR_end (w := w) (w' := w') e hb)
      rw [ext_all] at FE0
      have FE := Lib.hid FE0
      clear hB hI hC e e1 b hX hr FE0
      go_enter Tryz.func18, Tryz.ntmps18
      go_wp2
      go_loop [3] (fun iv => iv = .int .i64 0) (fun _ => 0)
      case atStart => first | rfl | trivial
      case round =>
        obtain rfl := hrel
        go_wp2_with (first
          | (go_at_call 31; refine (HB.out _).mono ?_; rintro e w' ⟨rfl, rfl⟩)
          | (go_at_call 32; refine (HC.out _).mono ?_; rintro e w' ⟨rfl, rfl⟩))
        exact bodyPost_ret (v := .agg #[.int .i64 (7 : Nat), .string s]) (by simp [results, Tryz.results18, go_sem]) rfl (FE.out _ ((Below.refl _ _).alloc (Nat.le_refl _) _))
  · rw [b] at hB
    have HB := Lib.hid hB
    obtain ⟨q1, q2, q3⟩ := k91 e1
    have hC : ∀ w, Calls Tryz.prog 32 #[.string s] w (EndRet 93 s w) := fun w => end91 s w h0 hs e1
    rw [cls_X 5 93 s h0] at e
    unfold EndRet endV at hC
    cases hX : cloX 93 s with
    | some n =>
      rw [hX] at e hC
      have e : frS s = (5, n) := e
      rw [e] at hr
      have hC : ∀ w, Calls Tryz.prog 32 #[.string s] w fun e w' => e = .returned (.int .i64 (n : Nat)) ∧ w = w' := hC
      have HC := Lib.hid hC
      have FE := Lib.hid (fun w' hb => frR_end (w := w) (w' := w') e hb)
      have z1 : (0 : Int) ≤ (n : Int) := by omega
      have z2 : (n : Int) ≤ (s.size : Int) := by have := hr.2; omega
      have z3 : ((n : Int) == 0) = false := beq_eq_false_iff_ne.2 (by have := hr.1; omega)
      clear hB hI hC e e1 b hX hr
      go_enter Tryz.func18, Tryz.ntmps18
      go_wp2
      go_loop [3] (fun iv => iv = .int .i64 0) (fun _ => 0)
      case atStart => first | rfl | trivial
      case round =>
        obtain rfl := hrel
        go_wp2_with (first
          | (go_at_call 31; refine (HB.out _).mono ?_; rintro e w' ⟨rfl, rfl⟩)
          | (go_at_call 32; refine (HC.out _).mono ?_; rintro e w' ⟨rfl, rfl⟩))
        exact bodyPost_ret (v := .agg #[.int .i64 (5 : Nat), .string (s.extract 0 n)]) (by simp [results, Tryz.results18, go_sem]) rfl (FE.out _ ((Below.refl _ _).alloc (Nat.le_refl _) _))
    | none =>
      rw [hX] at e hC
      have hC : ∀ w, Calls Tryz.prog 32 #[.string s] w fun e w' => e = .returned (.int .i64 0) ∧ w = w' := hC
      have HC := Lib.hid hC
      have e : frS s = (7, s.size) := e
      have FE0 := (fun w' hb => frR_end (w := w) (w' := w') e hb)
      rw [ext_all] at FE0
      have FE := Lib.hid FE0
      clear hB hI hC e e1 b hX hr FE0
      go_enter Tryz.func18, Tryz.ntmps18
      go_wp2
      go_loop [3] (fun iv => iv = .int .i64 0) (fun _ => 0)
      case atStart => first | rfl | trivial
      case round =>
        obtain rfl := hrel
        go_wp2_with (first
          | (go_at_call 31; refine (HB.out _).mono ?_; rintro e w' ⟨rfl, rfl⟩)
          | (go_at_call 32; refine (HC.out _).mono ?_; rintro e w' ⟨rfl, rfl⟩))
        exact bodyPost_ret (v := .agg #[.int .i64 (7 : Nat), .string s]) (by simp [results, Tryz.results18, go_sem]) rfl (FE.out _ ((Below.refl _ _).alloc (Nat.le_refl _) _))
  · rw [b] at hB
    rw [e4] at hI
    obtain ⟨q1, q2, q3⟩ := kno e1 e2 e3
    have HB := Lib.hid hB
    have HI := Lib.hid hI
    have FE := Lib.hid (fun w' hb => frR_end (w := w) (w' := w') e hb)
    have z2 : (1 : Int) ≤ (s.size : Int) := by omega
    clear hB hI e e1 e2 e3 e4 b hr
    go_enter Tryz.func18, Tryz.ntmps18
    go_wp2
    go_loop [3] (fun iv => iv = .int .i64 0) (fun _ => 0)
    case atStart => first | rfl | trivial
    case round =>
      obtain rfl := hrel
      go_wp2_with (first
        | (go_at_call 31; refine (HB.out _).mono ?_; rintro e w' ⟨rfl, rfl⟩)
        | (go_at_call 33; refine (HI.out _).mono ?_; rintro e w' ⟨rfl, rfl⟩))
      exact bodyPost_ret (v := .agg #[.int .i64 (4 : Nat), .string (s.extract 0 1)]) (by simp [results, Tryz.results18, go_sem]) rfl (FE.out _ ((Below.refl _ _).alloc (Nat.le_refl _) _))
  · rw [b] at hB
    rw [e4] at hI
    obtain ⟨q1, q2, q3⟩ := kno e1 e2 e3
    have HB := Lib.hid hB
    have HI := Lib.hid hI
    rw [e] at hr
    have hst : Hid (RowIs atm s 0) := show 0 + _ = _ by rw [tl_zero, Nat.zero_add]
    have HF := Lib.hid ratom_any
    obtain ⟨N, hN⟩ : ∃ N, (s.data.toList.takeWhile atm).length = N := ⟨_, rfl⟩
    rw [hN] at e hr
    have FE := Lib.hid (fun w' hb => frR_end (w := w) (w' := w') e hb)
    have HN := Lib.hid hN
    obtain ⟨r1, r2⟩ := hr
    have r1 : 1 ≤ N := r1
    have r2 : N ≤ s.size := r2
    clear hB hI e e1 e2 e3 e4 e5 b hN
    go_enter Tryz.func18, Tryz.ntmps18
    go_wp2
    go_loop [3] (fun iv => iv = .int .i64 0) (fun _ => 0)
    case atStart => first | rfl | trivial
    case round =>
      obtain rfl := hrel
      go_wp2_with (first
        | (go_at_call 31; refine (HB.out _).mono ?_; rintro e w' ⟨rfl, rfl⟩)
        | (go_at_call 33; refine (HI.out _).mono ?_; rintro e w' ⟨rfl, rfl⟩))
      go_loop [3] (fun iv => ∃ k : Nat, k ≤ s.size ∧ iv = .int .i64 k ∧ Hid (RowIs atm s k)) (fun iv => s.size - (intOf iv).toNat)
      case atStart => exact ⟨0, by omega, by first | rfl | trivial, hst⟩
      case round =>
        clear hst
        obtain ⟨k, hk, rfl, hrel⟩ := hrel
        by_cases hlt : k < s.size
        · obtain ⟨s1, s2⟩ := row_step hrel.out hlt
          have hF := fun w => (HF.out s[k] w)
          cases hp : atm s[k] with
          | true =>
            have hd := Lib.hid (s1 hp)
            rw [hp] at hF
            have HF2 := Lib.hid hF
            clear s1 s2 hF hp hrel
            go_wp2_with (go_at_call 24; refine (HF2.out _).mono ?_; rintro e w' ⟨rfl, rfl⟩)
            go_round
            case rel => exact ⟨k + 1, by omega, by go_num, hd⟩
            case measure => simp [intOf]; omega
          | false =>
            have hkN := s2 hp
            rw [HN.out] at hkN
            rw [hp] at hF
            have HF2 := Lib.hid hF
            subst hkN
            clear s1 s2 hF hp hrel
            go_wp2_with (go_at_call 24; refine (HF2.out _).mono ?_; rintro e w' ⟨rfl, rfl⟩)
            exact bodyPost_ret (v := .agg #[.int .i64 (1 : Nat), .string (s.extract 0 N)]) (by simp [results, Tryz.results18, go_sem]) rfl (FE.out _ ((Below.refl _ _).alloc (Nat.le_refl _) _))
        · have hkN := row_end hrel.out hlt hk
          rw [HN.out] at hkN
          obtain rfl : N = s.size := by omega
          obtain rfl : k = s.size := by omega
          have FE := FE.out
          rw [ext_all] at FE
          have FE := Lib.hid FE
          have hx := ext_all s
          clear hrel HN
          go_wp2
          exact bodyPost_ret (v := .agg #[.int .i64 (1 : Nat), .string s]) (by simp [results, Tryz.results18, go_sem, hx]) rfl (FE.out _ ((Below.refl _ _).alloc (Nat.le_refl _) _))
  · rw [b] at hB
    rw [e4] at hI
    obtain ⟨q1, q2, q3⟩ := kno e1 e2 e3
    have HB := Lib.hid hB
    have HI := Lib.hid hI
    have hA := ratom_any s[0]
    rw [e5] at hA
    have HA := Lib.hid hA
    have FE := Lib.hid (fun w' hb => frR_end (w := w) (w' := w') e hb)
    have z2 : (1 : Int) ≤ (s.size : Int) := by omega
    clear hB hI hA e e1 e2 e3 e4 e5 b hr
    go_enter Tryz.func18, Tryz.ntmps18
    go_wp2
    go_loop [3] (fun iv => iv = .int .i64 0) (fun _ => 0)
    case atStart => first | rfl | trivial
    case round =>
      obtain rfl := hrel
      go_wp2_with (first
        | (go_at_call 31; refine (HB.out _).mono ?_; rintro e w' ⟨rfl, rfl⟩)
        | (go_at_call 33; refine (HI.out _).mono ?_; rintro e w' ⟨rfl, rfl⟩))
      go_loop [3] (fun iv => iv = .int .i64 0) (fun _ => 0)
      case atStart => first | rfl | trivial
      case round =>
        obtain rfl := hrel
        go_wp2_with (go_at_call 24; refine (HA.out _).mono ?_; rintro e w' ⟨rfl, rfl⟩)
        exact bodyPost_ret (v := .agg #[.int .i64 (7 : Nat), .string (s.extract 0 1)]) (by simp [results, Tryz.results18, go_sem]) rfl (FE.out _ ((Below.refl _ _).alloc (Nat.le_refl _) _))
end Go.Proofs.YtlhmdooeffmedaaGreatDoor
