/- Walks: fold.lower. -/
import Derived.Test.YtnclbbgdfaeilaaGreatDoorRows
import Derived.Test.YtnclbbgdfaeilaaGreatDoorFolP
import Derived.WalkSmall
import Derived.Deep.QuietTactic
import Derived.BigQuiet
import Derived.IntWalk
import Derived.Deep.DeepCutAuto
namespace Go.Proofs.YtnclbbgdfaeilaaGreatDoor
open Go.RowKit Pk U8 Fo

/-- the table of spans lies as the text lays it -/
def SpansAt (w : World) (b off cap : Nat) : Prop := w.cell? ⟨0, 0, none⟩ = some (.slice (some ⟨b, off, none⟩) 17 cap) ∧ 17 ≤ cap ∧
  ∀ i, i < 17 → w.cell? ⟨b, off + i * 4, none⟩ = some (.int .i32 (spLo i)) ∧ w.cell? ⟨b, off + i * 4 + 1, none⟩ = some (.int .i32 (spHi i)) ∧ w.cell? ⟨b, off + i * 4 + 2, none⟩ = some (.int .i32 (spSt i)) ∧ w.cell? ⟨b, off + i * 4 + 3, none⟩ = some (.int .i32 (spMo i))
theorem SpansAt.later {w w' : World} {b off cap : Nat} (h : SpansAt w b off cap) (hb : Below w.heap.size w w') : SpansAt w' b off cap :=
  ⟨cell_later hb h.1, h.2.1, fun i hi => by obtain ⟨a, b, c, d⟩ := h.2.2 i hi; exact ⟨cell_later hb a, cell_later hb b, cell_later hb c, cell_later hb d⟩⟩
def cmpI (lo hi r : Int) : Int := if hi < r then -1 else if r < lo then 1 else 0
theorem cmpI_1 {lo hi r : Int} (h : hi < r) : cmpI lo hi r = -1 := by unfold cmpI; rw [if_pos h]
theorem cmpI_2 {lo hi r : Int} (h : ¬ hi < r) (h2 : r < lo) : cmpI lo hi r = 1 := by unfold cmpI; rw [if_neg h, if_pos h2]
theorem cmpI_3 {lo hi r : Int} (h : ¬ hi < r) (h2 : ¬ r < lo) : cmpI lo hi r = 0 := by unfold cmpI; rw [if_neg h, if_neg h2]
theorem cmp_any (lo hi st mo r : Int) (w : World) :
    Calls Tryz.prog 108 #[.agg #[.int .i32 lo, .int .i32 hi, .int .i32 st, .int .i32 mo], .int .i32 r] w fun e w' => e = .returned (.int .i64 (cmpI lo hi r)) ∧ Below w.heap.size w w' := by
  by_cases h1 : hi < r
  · rw [cmpI_1 h1]
    go_enter Tryz.func108, Tryz.ntmps108
    go_wp2
    go_ret
    exact ⟨rfl, (Below.refl _ _).alloc (Nat.le_refl _) _⟩
  · by_cases h2 : r < lo
    · rw [cmpI_2 h1 h2]
      go_enter Tryz.func108, Tryz.ntmps108
      go_wp2
      go_ret
      exact ⟨rfl, (Below.refl _ _).alloc (Nat.le_refl _) _⟩
    · rw [cmpI_3 h1 h2]
      go_enter Tryz.func108, Tryz.ntmps108
      go_wp2
      go_ret
      exact ⟨rfl, (Below.refl _ _).alloc (Nat.le_refl _) _⟩

/-- how the search ends -/
def BsIs (r : Int) (w : World) (e : Ending) (w' : World) : Prop := ∃ (i : Nat) (fd : Bool), e = .returned (.tuple #[.int .i64 i, .bool fd]) ∧ i ≤ 17 ∧ (∀ k, k < i → spHi k < r) ∧ (∀ k, i ≤ k → k < 17 → r ≤ spHi k) ∧ (fd = true ↔ i < 17 ∧ spLo i ≤ r) ∧ Below w.heap.size w w'
set_option maxHeartbeats 2000000 in
theorem bs_any (r : Int) (w : World) (b off cap : Nat) (hS : SpansAt w b off cap) :
    Calls Tryz.prog 107 #[.slice (some ⟨b, off, none⟩) 17 cap, .int .i32 r, .func (.func 108) #[] #[]] w (BsIs r w) := by
  have HS := Lib.hid hS
  have hcap := hS.2.1
  clear hS
  go_enter Tryz.func107, Tryz.ntmps107
  go_wp2
  go_loopw [9, 10] (fun iv jv wr => ∃ (i j : Nat), iv = .int .i64 i ∧ jv = .int .i64 j ∧ i ≤ j ∧ j ≤ 17 ∧ Below w.heap.size w wr ∧ Hid (∀ k, k < i → spHi k < r) ∧ Hid (∀ k, j ≤ k → k < 17 → r ≤ spHi k)) (fun iv jv _ => (intOf jv).toNat - (intOf iv).toNat)
  case atStart => exact ⟨0, 17, rfl, rfl, by omega, by omega, Below.refl _ _, fun k hk => absurd hk (by omega), fun k hk h2 => absurd h2 (by omega)⟩
  case round =>
    obtain ⟨i, j, rfl, rfl, hij, hj, hbel, hlo, hhi⟩ := hrel
    have hsz := hbel.size
    have tb := hbel
    by_cases hlt : i < j
    · obtain ⟨h, hh⟩ : ∃ h : Nat, ((i : Int) + (j : Int)) / 2 = (h : Int) := ⟨(i + j) / 2, by omega⟩
      have h1 : i ≤ h := by omega
      have h2 : h < j := by omega
      obtain ⟨c0, c1, c2, c3⟩ := (HS.out.later hbel).2.2 h (by omega)
      by_cases hc : spHi h < r
      · have hlo' : Hid (∀ k, k < h + 1 → spHi k < r) := fun k hk => by
          have := sp_mono k (by omega) h (by omega) (by omega)
          omega
        have hcm := Lib.hid (fun w => by have := cmp_any (spLo h) (spHi h) (spSt h) (spMo h) r w; rw [cmpI_1 hc] at this; exact this)
        clear hlo hc
        go_wp2_with (go_at_call 108; (with_reducible refine (hcm.out _).mono ?_); rintro e w1 ⟨rfl, hb1⟩; have tb := tb.trans (hb1.mono tb.size))
        go_roundw
        case rel => exact ⟨h + 1, j, by go_num, rfl, by omega, hj, tb, hlo', hhi⟩
        case measure => simp [intOf]; omega
      · have hhi' : Hid (∀ k, h ≤ k → k < 17 → r ≤ spHi k) := fun k hk hk2 => by
          have := sp_mono h (by omega) k hk2 hk
          omega
        have hcm : ∃ c : Int, 0 ≤ c ∧ Hid (∀ w, Calls Tryz.prog 108 #[.agg #[.int .i32 (spLo h), .int .i32 (spHi h), .int .i32 (spSt h), .int .i32 (spMo h)], .int .i32 r] w fun e w' => e = .returned (.int .i64 c) ∧ Below w.heap.size w w') := by
          refine ⟨cmpI (spLo h) (spHi h) r, ?_, fun w => cmp_any _ _ _ _ _ w⟩
          unfold cmpI; rw [if_neg hc]; split <;> omega
        obtain ⟨c, hc0, hcm⟩ := hcm
        clear hhi hc
        go_wp2_with (go_at_call 108; (with_reducible refine (hcm.out _).mono ?_); rintro e w1 ⟨rfl, hb1⟩; have tb := tb.trans (hb1.mono tb.size))
        go_roundw
        case rel => exact ⟨i, h, rfl, rfl, by omega, by omega, tb, hlo, hhi'⟩
        case measure => simp [intOf]; omega
    · obtain rfl : i = j := by omega
      by_cases h17 : i < 17
      · obtain ⟨c0, c1, c2, c3⟩ := (HS.out.later hbel).2.2 i h17
        have hni := hhi.out i (by omega) h17
        by_cases hl : r < spLo i
        · have hcm := Lib.hid (fun w => by have := cmp_any (spLo i) (spHi i) (spSt i) (spMo i) r w; rw [cmpI_2 (by omega) hl] at this; exact this)
          have hfin : Hid (∀ w', Below w.heap.size w w' → BsIs r w (.returned (.tuple #[.int .i64 i, .bool false])) w') := fun w' hb => ⟨i, false, rfl, hj, hlo.out, hhi.out, ⟨fun h => Bool.noConfusion h, fun h => absurd h.2 (by omega)⟩, hb⟩
          clear hlo hhi hni hl
          go_wp2_with (go_at_call 108; (with_reducible refine (hcm.out _).mono ?_); rintro e w1 ⟨rfl, hb1⟩; have tb := tb.trans (hb1.mono tb.size))
          go_ret2
          exact hfin.out _ tb
        · have hcm := Lib.hid (fun w => by have := cmp_any (spLo i) (spHi i) (spSt i) (spMo i) r w; rw [cmpI_3 (by omega) hl] at this; exact this)
          have hfin : Hid (∀ w', Below w.heap.size w w' → BsIs r w (.returned (.tuple #[.int .i64 i, .bool true])) w') := fun w' hb => ⟨i, true, rfl, hj, hlo.out, hhi.out, ⟨fun _ => ⟨h17, by omega⟩, fun _ => rfl⟩, hb⟩
          clear hlo hhi hni hl
          go_wp2_with (go_at_call 108; (with_reducible refine (hcm.out _).mono ?_); rintro e w1 ⟨rfl, hb1⟩; have tb := tb.trans (hb1.mono tb.size))
          go_ret2
          exact hfin.out _ tb
      · have hfin : Hid (∀ w', Below w.heap.size w w' → BsIs r w (.returned (.tuple #[.int .i64 i, .bool false])) w') := fun w' hb => ⟨i, false, rfl, hj, hlo.out, hhi.out, ⟨fun h => Bool.noConfusion h, fun h => absurd h.1 h17⟩, hb⟩
        clear hlo hhi
        go_wp2
        go_ret2
        exact hfin.out _ tb

theorem below_drewN' {B : Nat} {a w : World} (h : Below B a w) (n : Nat) : Below B a (w.drewN n) := ⟨h.os, h.tape, h.output, h.size, h.block⟩
set_option maxHeartbeats 2000000 in
theorem lower_any (r : Int) (w : World) (hr0 : -2147483648 ≤ r) (hr1 : r ≤ 2147483647) (b off cap : Nat) (hS : SpansAt w b off cap) :
    Calls Tryz.prog 74 #[.int .i32 r] w fun e w' => e = .returned (.int .i32 (lowI r)) ∧ Below w.heap.size w w' := by
  have hbs := Lib.hid (bs_any r w b off cap hS)
  have HS := Lib.hid hS
  have hg := hS.1
  clear hS
  go_enter Tryz.func74, Tryz.ntmps74
  go_wp2_with (go_at_call 107; (with_reducible refine hbs.out.mono ?_); rintro e w1 ⟨i, fd, rfl, hi, hlo, hhi, hfd, tb⟩; have HFD := Lib.hid hfd; have HLO := Lib.hid hlo; have HHI := Lib.hid hhi; clear hfd hlo hhi)
  cases fd with
  | false =>
    have hl : lowI r = r := by
      by_cases h17 : i < 17
      · rw [lowI_found h17 HLO.out (by have := HHI.out i (Nat.le_refl _) h17; omega), if_neg]
        intro h
        exact Bool.noConfusion (HFD.out.2 ⟨h17, h.1⟩)
      · exact lowI_end fun k hk => HLO.out k (by omega)
    have HL := Lib.hid hl
    clear hl HFD HLO HHI hbs
    go_quiet (fail)
    go_wp2
    go_ret
    rw [HL.out]
    exact ⟨rfl, below_drewN' tb _⟩
  | true =>
    obtain ⟨h17, hlo⟩ := HFD.out.1 rfl
    have hl := lowI_found h17 HLO.out (by have := HHI.out i (Nat.le_refl _) h17; omega)
    have hhi := HHI.out i (Nat.le_refl _) h17
    obtain ⟨b1, b2, b3, b4, b5, b6, b7⟩ := sp_bd i h17
    obtain ⟨c0, c1, c2, c3⟩ := (HS.out.later tb).2.2 i h17
    have hg1 := (HS.out.later tb).1
    have w1' : IntKind.i32.wrap (r - spLo i) = r - spLo i := by rw [IntKind.wrap_i32]; omega
    have w2' : (r - spLo i).tmod (spSt i) = (r - spLo i) % spSt i := Int.tmod_eq_emod_of_nonneg (by omega)
    have w3' : IntKind.i32.wrap ((r - spLo i) % spSt i) = (r - spLo i) % spSt i := by
      have := Int.emod_nonneg (r - spLo i) (show spSt i ≠ 0 by omega)
      have := Int.emod_lt_of_pos (r - spLo i) b4
      rw [IntKind.wrap_i32]; omega
    have hz : (spSt i == 0) = false := beq_eq_false_iff_ne.2 (by omega)
    by_cases hm : (r - spLo i) % spSt i = 0
    · rw [if_pos ⟨hlo, hm⟩] at hl
      have HL := Lib.hid hl
      have q1 : ((r - spLo i) % spSt i != 0) = false := by rw [bne_eq_false_iff_eq]; exact hm
      clear hl HFD HLO HHI hbs hm
      go_quiet (fail)
      go_wp2
      go_ret
      rw [HL.out]
      exact ⟨rfl, below_drewN' tb _⟩
    · rw [if_neg (fun h => hm h.2)] at hl
      have HL := Lib.hid hl
      have q1 : ((r - spLo i) % spSt i != 0) = true := bne_iff_ne.2 hm
      clear hl HFD HLO HHI hbs hm
      go_quiet (fail)
      go_wp2
      go_ret
      rw [HL.out]
      exact ⟨rfl, below_drewN' tb _⟩
end Go.Proofs.YtnclbbgdfaeilaaGreatDoor
