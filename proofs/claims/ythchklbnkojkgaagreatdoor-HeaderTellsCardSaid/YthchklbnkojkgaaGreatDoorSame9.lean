/- Walks: chapter 09's laws: Blank; Same at parts of lists. -/
import Derived.Test.YthchklbnkojkgaaGreatDoorLaw9
namespace Go.Proofs.YthchklbnkojkgaaGreatDoor
open Go.RowKit Pk Hd

set_option maxRecDepth 100000 in
theorem rblank_any (c : UInt8) (w : World) : Calls Tryz.prog 19 #[.int .u8 c.toNat] w fun e w' => e = .returned (.bool (blk c)) ∧ w = w' := by
  have q1 : ((c.toNat : Int) == 32) = decide (c = 32) := u8k 32 (by decide)
  have q2 : ((c.toNat : Int) == 9) = decide (c = 9) := u8k 9 (by decide)
  have hb : blk c = (decide (c = 32) || decide (c = 9)) := by
    unfold blk
    by_cases e1 : c = 32
    · subst e1; rfl
    · by_cases e2 : c = 9
      · subst e2; rfl
      · rw [decide_eq_false e1, decide_eq_false e2]
        simp [e1, e2]
  rw [hb]
  cases h1 : decide (c = 32)
  · rw [h1] at q1
    cases h2 : decide (c = 9)
    all_goals
      rw [h2] at q2
      clear hb h1 h2
      go_enter Tryz.func19, Tryz.ntmps19
      go_wp2
      go_ret
      exact ⟨rfl, rfl⟩
  · rw [h1] at q1
    clear hb h1 q2
    go_enter Tryz.func19, Tryz.ntmps19
    go_wp2
    go_ret
    exact ⟨by simp, rfl⟩
/-- a part of a list of fields, as it is read -/
def viewF (w : World) (v : Value) (m : List Fld) : Prop := ∃ p c, v = .slice p m.length c ∧ m.length ≤ c ∧ (m = [] ∨ ∃ g o, p = some ⟨g, o, none⟩ ∧ ∀ j (hj : j < m.length), w.cell? ⟨g, o + j * 4, none⟩ = some (.string m[j].name) ∧ w.cell? ⟨g, o + j * 4 + 1, none⟩ = some (.string m[j].value) ∧ w.cell? ⟨g, o + j * 4 + 2, none⟩ = some (.string m[j].raw) ∧ w.cell? ⟨g, o + j * 4 + 3, none⟩ = some (.bool m[j].bad))
theorem view_of {w : World} {v : Value} {m : List Fld} {C : Nat} (h : seesG fldLay w C 29 v m) : viewF w v m := by
  obtain ⟨p, c, h1, h2, h3⟩ := h.form
  refine ⟨p, c, h1, h2, ?_⟩
  rcases h3 with h3 | ⟨g, h4, h5, h6⟩
  · exact .inl h3
  · refine .inr ⟨g, 0, h4, fun j hj => ?_⟩
    rw [Nat.zero_add]
    exact fld_cells (h6 j hj)
theorem view_tail {w : World} {p : Option Addr} {n c C : Nat} {x : Fld} {m : List Fld} (h : seesG fldLay w C 29 (.slice p n c) (x :: m)) (hn : n = m.length + 1) : viewF w (.slice (if c = 1 then p else p.map (·.add 4)) (n - 1) (c - 1)) m := by
  obtain ⟨p', c', h1, h2, h3⟩ := h.form
  injection h1 with h1 h4 h5
  subst h1 h5 hn
  refine ⟨_, _, rfl, by rw [List.length_cons] at h2; omega, ?_⟩
  rcases h3 with h3 | ⟨g, rfl, h5, h6⟩
  · cases h3
  · by_cases hm : m = []
    · exact .inl hm
    · have hl := List.length_pos_iff.2 hm
      refine .inr ⟨g, 4, ?_, fun j hj => ?_⟩
      · rw [if_neg (by rw [List.length_cons] at h2; omega), Option.map_some]
        unfold Addr.add; simp
      · have := fld_cells (h6 (j + 1) (by rw [List.length_cons]; omega))
        rw [show (j + 1) * 4 = 4 + j * 4 by omega] at this
        exact this
set_option maxHeartbeats 4000000 in
set_option maxRecDepth 100000 in
theorem same9_view (va vb : Value) (m : List Fld) (w : World) (hA : viewF w va m) (hB : viewF w vb m) (hm : m.length ≤ 1000000) :
    Calls Tryz.prog 20 #[va, vb] w fun e w' => e = .returned (.bool true) ∧ Below w.heap.size w w' := by
  obtain ⟨pa, ca, rfl, hca, hA⟩ := hA
  obtain ⟨pb, cb, rfl, hcb, hB⟩ := hB
  rcases hA with rfl | ⟨ga, oa, rfl, hA⟩
  · clear hB
    go_enter Tryz.func20, Tryz.ntmps20
    go_wp2
    go_loopw [5] (fun iv wr => iv = .int .i64 0 ∧ wr = w) (fun iv _ => 0)
    case atStart => exact ⟨by first | rfl | trivial, rfl⟩
    case round =>
      obtain ⟨rfl, rfl⟩ := hrel
      go_wp2
      go_ret
      exact ⟨rfl, Below.refl _ _⟩
  · rcases hB with rfl | ⟨gb, ob, rfl, hB⟩
    · clear hA
      go_enter Tryz.func20, Tryz.ntmps20
      go_wp2
      go_loopw [5] (fun iv wr => iv = .int .i64 0 ∧ wr = w) (fun iv _ => 0)
      case atStart => exact ⟨by first | rfl | trivial, rfl⟩
      case round =>
        obtain ⟨rfl, rfl⟩ := hrel
        go_wp2
        go_ret
        exact ⟨rfl, Below.refl _ _⟩
    · have HA := Lib.hid hA
      have HB := Lib.hid hB
      clear hA hB
      go_enter Tryz.func20, Tryz.ntmps20
      go_wp2
      go_loopw [5] (fun iv wr => ∃ i : Nat, iv = .int .i64 i ∧ i ≤ m.length ∧ Below w.heap.size w wr) (fun iv _ => m.length - (intOf iv).toNat)
      case atStart => exact ⟨0, by first | rfl | trivial, by omega, Below.refl _ _⟩
      case round =>
        obtain ⟨i, rfl, hi, hbel⟩ := hrel
        have hz := hbel.size
        by_cases hlt : i < m.length
        · obtain ⟨a0, a1, a2, a3⟩ := HA.out i hlt
          obtain ⟨b0, b1, b2, b3⟩ := HB.out i hlt
          have a0 := cell_later hbel a0
          have a1 := cell_later hbel a1
          have a2 := cell_later hbel a2
          have a3 := cell_later hbel a3
          have b0 := cell_later hbel b0
          have b1 := cell_later hbel b1
          have b2 := cell_later hbel b2
          have b3 := cell_later hbel b3
          generalize m[i].name = x0 at *
          generalize m[i].value = x1 at *
          generalize m[i].raw = x2 at *
          generalize m[i].bad = x3 at *
          have z0 : (0 : Int) ≤ (i : Int) := by omega
          have z1 : (i : Int) < (m.length : Int) := by omega
          go_wp2
          go_quiet (fail)
          go_wp2
          go_roundw
          case rel => exact ⟨i + 1, by go_num, by omega, hbel.trans ((drewN_below _ _).mono hz)⟩
          case measure => simp [intOf]; omega
        · go_wp2
          go_ret
          exact ⟨rfl, hbel⟩
end Go.Proofs.YthchklbnkojkgaaGreatDoor
