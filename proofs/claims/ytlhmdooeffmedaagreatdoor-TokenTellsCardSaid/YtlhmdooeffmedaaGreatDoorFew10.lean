/- Walks: chapter 10's laws: few, same. -/
import Derived.Test.YtlhmdooeffmedaaGreatDoorLaw10
import Derived.Test.YtlhmdooeffmedaaGreatDoorKitF
import Derived.Deep.QuietTactic
import Derived.BigQuiet
namespace Go.Proofs.YtlhmdooeffmedaaGreatDoor
open Go.RowKit Pk Tk Su Fo Rp

set_option maxHeartbeats 400000 in
theorem few10_any (s : ByteArray) (w : World) : Calls Tryz.prog 5 #[.string s] w fun e w' => e = .returned (.bool (decide (s.size ≤ 400))) ∧ w = w' := by
  have e : decide (s.size ≤ 400) = decide ((s.size : Int) ≤ 400) := decide_eq_decide.2 (by omega)
  rw [e]
  clear e
  go_enter Tryz.func5, Tryz.ntmps5
  go_wp2
  go_ret
  exact ⟨rfl, rfl⟩
def SmallP : Prop := ∀ w : World, Rt w → Calls Tryz.prog 4 #[] w (Truth w)
set_option maxHeartbeats 4000000 in
set_option maxRecDepth 100000 in
theorem same_refl (va vb : Value) (m : List El) (w : World) (hA : seesE w w.heap.size 23 va m) (hB : seesE w w.heap.size 23 vb m) (hm : m.length ≤ 1000000) :
    Calls Tryz.prog 8 #[va, vb] w fun e w' => e = .returned (.bool true) ∧ Below w.heap.size w w' := by
  obtain ⟨pa, ca, rfl, hca, hA⟩ := hA.form
  obtain ⟨pb, cb, rfl, hcb, hB⟩ := hB.form
  rcases hA with rfl | ⟨ga, rfl, hga, hA⟩
  · clear hB
    go_enter Tryz.func8, Tryz.ntmps8
    go_wp2
    go_loopw [5] (fun iv wr => iv = .int .i64 0 ∧ wr = w) (fun iv _ => 0)
    case atStart => exact ⟨by first | rfl | trivial, rfl⟩
    case round =>
      obtain ⟨rfl, rfl⟩ := hrel
      go_wp2
      go_ret
      exact ⟨rfl, Below.refl _ _⟩
  · rcases hB with rfl | ⟨gb, rfl, hgb, hB⟩
    · clear hA
      go_enter Tryz.func8, Tryz.ntmps8
      go_wp2
      go_loopw [5] (fun iv wr => iv = .int .i64 0 ∧ wr = w) (fun iv _ => 0)
      case atStart => exact ⟨by first | rfl | trivial, rfl⟩
      case round =>
        obtain ⟨rfl, rfl⟩ := hrel
        go_wp2
        go_ret
        exact ⟨rfl, Below.refl _ _⟩
    · have HA := Lib.hid hA
      have HB := Lib.hid hB
      clear hA hB
      go_enter Tryz.func8, Tryz.ntmps8
      go_wp2
      go_loopw [5] (fun iv wr => ∃ i : Nat, iv = .int .i64 i ∧ i ≤ m.length ∧ Below w.heap.size w wr) (fun iv _ => m.length - (intOf iv).toNat)
      case atStart => exact ⟨0, by first | rfl | trivial, by omega, Below.refl _ _⟩
      case round =>
        obtain ⟨i, rfl, hi, hbel⟩ := hrel
        have hz := hbel.size
        by_cases hlt : i < m.length
        · obtain ⟨a0, a1⟩ := HA.out i hlt
          obtain ⟨b0, b1⟩ := HB.out i hlt
          have a0 := cell_later hbel a0
          have a1 := cell_later hbel a1
          have b0 := cell_later hbel b0
          have b1 := cell_later hbel b1
          generalize m[i].kind = k at *
          generalize m[i].text = T at *
          have z0 : (0 : Int) ≤ (i : Int) := by omega
          have z1 : (i : Int) < (m.length : Int) := by omega
          go_wp2
          go_quiet (fail)
          go_wp2
          go_roundw
          case rel => exact ⟨i + 1, by go_num, by omega, hbel.trans ((below_drew _ _).mono hz)⟩
          case measure => simp [intOf]; omega
        · go_wp2
          go_ret
          exact ⟨rfl, hbel⟩
end Go.Proofs.YtlhmdooeffmedaaGreatDoor
