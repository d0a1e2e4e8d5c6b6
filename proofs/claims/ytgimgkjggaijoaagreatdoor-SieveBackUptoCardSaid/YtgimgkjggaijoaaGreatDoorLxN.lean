/- Walks: lex: quoted, number. -/
import Derived.Test.YtgimgkjggaijoaaGreatDoorLxM
import Derived.Test.YtgimgkjggaijoaaGreatDoorNumP
namespace Lx
open Go Pk
/-- where the search of the closing quote stands -/
def QuoAt (s : ByteArray) (i : Nat) (acc : List UInt8) (X : Option (List UInt8 × Nat)) : Prop := (quoL (tl s i)).map (fun p => (acc ++ p.1, i + p.2)) = X
theorem quo_step {s : ByteArray} {i : Nat} {acc : List UInt8} {X : Option (List UInt8 × Nat)} (h : QuoAt s i acc X) (hi : i < s.size) :
    (s[i] = 34 → X = some (acc, i + 1)) ∧ (s[i] = 92 → (∀ h2 : i + 1 < s.size, QuoAt s (i + 1 + 1) (acc ++ [s[i + 1]]) X) ∧ (¬ i + 1 < s.size → X = none)) ∧ (s[i] ≠ 34 → s[i] ≠ 92 → QuoAt s (i + 1) (acc ++ [s[i]]) X) := by
  have e := h
  unfold QuoAt at e
  rw [tl_cons s i hi] at e
  refine ⟨fun h1 => ?_, fun h1 => ⟨fun h2 => ?_, fun h2 => ?_⟩, fun h1 h2 => ?_⟩
  · rw [h1, quo_34] at e
    rw [← e]; simp
  · rw [tl_cons s (i + 1) h2] at e
    unfold quoL at e
    rw [if_neg (by rw [h1]; decide), if_pos h1] at e
    unfold QuoAt
    rw [← e]
    cases quoL (tl s (i + 1 + 1)) with
    | none => rfl
    | some p => simp; omega
  · rw [tl_end s (i + 1) (by omega)] at e
    unfold quoL at e
    rw [if_neg (by rw [h1]; decide)] at e
    exact e.symm
  · by_cases h3 : i + 1 < s.size
    · rw [tl_cons s (i + 1) h3] at e
      unfold quoL at e
      rw [if_neg h1, if_neg h2] at e
      unfold QuoAt
      rw [tl_cons s (i + 1) h3, ← e]
      cases quoL (s[i + 1] :: tl s (i + 1 + 1)) with
      | none => rfl
      | some p => simp; omega
    · rw [tl_end s (i + 1) (by omega)] at e
      unfold quoL at e
      rw [if_neg h1] at e
      unfold QuoAt
      rw [tl_end s (i + 1) (by omega), ← e]
      rfl
theorem quo_end {s : ByteArray} {i : Nat} {acc : List UInt8} {X : Option (List UInt8 × Nat)} (h : QuoAt s i acc X) (hi : ¬ i < s.size) : X = none := by
  unfold QuoAt at h
  rw [tl_end s i (by omega)] at h
  exact h.symm
end Lx
namespace Go.Proofs.YtgimgkjggaijoaaGreatDoor
open Go.RowKit Pk Lx

set_option maxHeartbeats 4000000 in
set_option maxRecDepth 100000 in
theorem quoted_any (s : ByteArray) (w : World) (hs : s.size ≤ 10000000) (h0 : 0 < s.size) : Calls Tryz.prog 44 #[.string s] w (PairIs ((quoL (tl s 1)).map fun p => (p.1, 1 + p.2)) w) := by
  have hst : Hid (QuoAt s 1 [] ((quoL (tl s 1)).map fun p => (p.1, 1 + p.2))) := by show _ = _; simp
  generalize (quoL (tl s 1)).map (fun p => (p.1, 1 + p.2)) = X at *
  go_enter Tryz.func44, Tryz.ntmps44
  go_wp2
  go_loopw [5] (fun iv wr => ∃ (i : Nat) (acc : List UInt8), iv = .int .i64 i ∧ i ≤ s.size + 1 ∧ acc.length ≤ i ∧ Bld wr w.heap.size w.heap.size acc ∧ Below w.heap.size w wr ∧ Hid (QuoAt s i acc X)) (fun iv _ => s.size + 1 - (intOf iv).toNat)
  case atStart => exact ⟨1, [], by first | rfl | trivial, by omega, by simp, Bld.new w, (Below.refl _ w).alloc (Nat.le_refl _) _, hst⟩
  case round =>
    obtain ⟨i, acc, rfl, hi, hal, hB, hbel, hrel⟩ := hrel
    clear hst
    have hsz := hbel.size
    by_cases hlt : i < s.size
    · obtain ⟨s1, s2, s3⟩ := quo_step hrel.out hlt
      have hcb := s[i].toNat_lt
      by_cases g1 : s[i] = 34
      · have hX := Lib.hid (s1 g1)
        have q1 : ((s[i].toNat : Int) == 34) = true := (u8k 34 (by decide)).trans (decide_eq_true g1)
        have HS := Lib.hid (bstr w.heap.size w.heap.size acc wr hB hsz)
        obtain ⟨A, hAe, hAd, -⟩ := arrE acc
        have HA := Lib.hid hAd
        rw [← hAe] at HS
        clear s1 s2 s3 hrel g1 hAe hAd hB
        go_wp2_with (go_at_call 28; (with_reducible refine HS.out.mono ?_); rintro e w1 ⟨rfl, -, hb1, -⟩)
        go_ret2
        exact ⟨by rw [hX.out, ← HA.out]; show _ = Ending.returned (.tuple #[.string (toB A.data.toList), .int .i64 ((i + 1 : Nat) : Int)]); rw [toB_back]; rfl, hbel.trans hb1⟩
      · have q1 : ((s[i].toNat : Int) == 34) = false := (u8k 34 (by decide)).trans (decide_eq_false g1)
        by_cases g2 : s[i] = 92
        · have q2 : ((s[i].toNat : Int) == 92) = true := (u8k 92 (by decide)).trans (decide_eq_true g2)
          obtain ⟨s4, s5⟩ := s2 g2
          by_cases hlt2 : i + 1 < s.size
          · have hnx := Lib.hid (s4 hlt2)
            have HW := Lib.hid (wbc w.heap.size w.heap.size acc s[i + 1] wr hB (by omega) hsz)
            clear s1 s2 s3 s4 s5 hrel g1 g2 hB
            go_wp2_with (go_at_call 81; (with_reducible refine HW.out.mono ?_); rintro e w1 ⟨rfl, hB1, hb1, -⟩)
            go_roundw
            case rel => exact ⟨i + 1 + 1, _, by go_num, by omega, by rw [List.length_append, List.length_singleton]; omega, hB1, hbel.trans hb1, hnx⟩
            case measure => simp [intOf]; omega
          · have hX := Lib.hid (s5 hlt2)
            have hnx : Hid (QuoAt s (i + 1 + 1) acc X) := by
              show _ = _
              rw [tl_end s (i + 1 + 1) (by omega), hX.out]; rfl
            clear s1 s2 s3 s4 s5 hrel g1 g2
            go_wp2
            go_roundw
            case rel => exact ⟨i + 1 + 1, acc, by go_num, by omega, by omega, hB, hbel, hnx⟩
            case measure => simp [intOf]; omega
        · have q2 : ((s[i].toNat : Int) == 92) = false := (u8k 92 (by decide)).trans (decide_eq_false g2)
          have hnx := Lib.hid (s3 g1 g2)
          have HW := Lib.hid (wbc w.heap.size w.heap.size acc s[i] wr hB (by omega) hsz)
          clear s1 s2 s3 hrel g1 g2 hB
          go_wp2_with (go_at_call 81; (with_reducible refine HW.out.mono ?_); rintro e w1 ⟨rfl, hB1, hb1, -⟩)
          go_roundw
          case rel => exact ⟨i + 1, _, by go_num, by omega, by rw [List.length_append, List.length_singleton]; omega, hB1, hbel.trans hb1, hnx⟩
          case measure => simp [intOf]; omega
    · have hX := Lib.hid (quo_end hrel.out hlt)
      clear hrel
      go_wp2
      go_ret2
      exact ⟨by rw [hX.out]; rfl, hbel⟩
end Go.Proofs.YtgimgkjggaijoaaGreatDoor
