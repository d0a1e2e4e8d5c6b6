/- Walks: the program's codec: values. -/
import Derived.Test.YtnclbbgdfaeilaaGreatDoorCod6
import Derived.Test.YtnclbbgdfaeilaaGreatDoorSpc6
import Derived.Test.YtnclbbgdfaeilaaGreatDoorCod6t
import Derived.Lib.BufferWrite
import Derived.Deep.DeepCutAuto
import Derived.Deep.CutBlock
import Derived.OneCell
import Derived.Deep.WholeRow
namespace Go.Proofs.YtnclbbgdfaeilaaGreatDoor
open Go.RowKit Pk C6 Hx

def tabL : Nat → List UInt8
  | 0 => List.replicate 256 0
  | k + 1 => (tabL k).set (dig (k : Int)).toNat (UInt8.ofNat (k + 1))
theorem tabL_length (k : Nat) : (tabL k).length = 256 := by
  induction k with
  | zero => rw [tabL, List.length_replicate]
  | succ k ih => rw [tabL, List.length_set, ih]
def tabV (c : UInt8) : UInt8 := if 0 ≤ valR c then UInt8.ofNat (valR c + 1).toNat else 0
theorem tabL_all : ∀ c : Fin 256, (tabL 64)[c.val]? = some (tabV (UInt8.ofNat c.val)) := by decide +kernel
def tabA : Array Value := (Lib.byteCells (tabL 64)).toArray
theorem tabA_size : tabA.size = 256 := by unfold tabA; rw [List.size_toArray, Lib.byteCells_length, tabL_length]
theorem tabA_one : tabA.all (·.oneCell') = true := by
  rw [Array.all_eq_true_iff_forall_mem]
  intro v hv
  exact Lib.byteCells_one _ v (by simpa [tabA] using hv)
theorem tabA_at (c : UInt8) : tabA[c.toNat]? = some (.int .u8 (tabV c).toNat) := by
  have := tabL_all ⟨c.toNat, c.toNat_lt⟩
  simp only [UInt8.ofNat_toNat] at this
  unfold tabA
  rw [List.getElem?_toArray]
  unfold Lib.byteCells
  rw [List.getElem?_map, this]
  rfl
theorem zero256 : Tryz.zeroCells115 = (Lib.byteCells (tabL 0)).toArray := by kernel_rfl
theorem tab_step (k : Nat) : Lib.byteCells (tabL (k + 1)) = (Lib.byteCells (tabL k)).set (dig (k : Int)).toNat (.int .u8 (UInt8.ofNat (k + 1)).toNat) := by
  simp only [tabL, Lib.byteCells, List.map_set]

set_option maxHeartbeats 4000000 in
theorem values_any (w : World) :
    Calls Tryz.prog 98 #[] w fun e w' => e = .returned (.agg tabA) ∧ Below w.heap.size w w' := by
  go_enter Tryz.func98, Tryz.ntmps98
  go_wp2
  go_loopw [2] (fun i wr => ∃ k : Nat, i = .int .i64 k ∧ k ≤ 64 ∧ wr.heap[w.heap.size]? = some (.cells (Lib.byteCells (tabL k)).toArray 115 (0, 0)) ∧ Below w.heap.size w wr) (fun i _ => 64 - (intOf i).toNat)
  case atStart => exact ⟨0, rfl, by omega, (heap_alloc_new w _).trans (by rw [zero256]), (Below.refl _ _).alloc (Nat.le_refl _) _⟩
  case round =>
    obtain ⟨k, rfl, hk, hbk, hbel⟩ := hrel
    have hsz := hbel.size
    by_cases hlt : k < 64
    · have x : (⟨#[65, 66, 67, 68, 69, 70, 71, 72, 73, 74, 75, 76, 77, 78, 79, 80, 81, 82, 83, 84, 85, 86, 87, 88, 89, 90, 97, 98, 99, 100, 101, 102, 103, 104, 105, 106, 107, 108, 109, 110, 111, 112, 113, 114, 115, 116, 117, 118, 119, 120, 121, 122, 48, 49, 50, 51, 52, 53, 54, 55, 56, 57, 43, 47]⟩ : ByteArray)[k]'(by show k < 64; omega) = dig (k : Int) := digits_at k hlt
      have w1 : IntKind.u8.wrap ((k : Int) + 1) = (k : Int) + 1 := w8 (by omega) (by omega)
      have hd := (dig (k : Int)).toNat_lt
      have hc : wr.cell? ⟨w.heap.size, (dig (k : Int)).toNat, none⟩ = some (.int .u8 ((tabL k)[(dig (k : Int)).toNat]'(by rw [tabL_length]; exact hd)).toNat) := by
        rw [cell_of_row _ _ _ _ _ _ hbk, List.getElem?_toArray]
        unfold Lib.byteCells
        rw [List.getElem?_map, List.getElem?_eq_getElem (by rw [tabL_length]; exact hd)]
        rfl
      have hf : wr.frozen? ⟨w.heap.size, (dig (k : Int)).toNat, none⟩ = false := by simp [World.frozen?, hbk]
      have hnx : (wr.setCell ⟨w.heap.size, (dig (k : Int)).toNat, none⟩ (.int .u8 ((k : Int) + 1))).heap[w.heap.size]? = some (.cells (Lib.byteCells (tabL (k + 1))).toArray 115 (0, 0)) := by
        rw [heap_setCell_same _ _ _ _ _ _ hbk, tab_step]
        have : (((UInt8.ofNat (k + 1)).toNat : Nat) : Int) = (k : Int) + 1 := by simp; omega
        rw [this]; simp
      have HN := Lib.hid hnx
      clear hnx
      obtain ⟨v0, hv0⟩ : ∃ v, wr.cell? ⟨w.heap.size, (dig (k : Int)).toNat, none⟩ = some v := ⟨_, hc⟩
      clear hc hbk
      generalize dig (k : Int) = dk at *
      go_wp2
      go_roundw
      case rel => exact ⟨k + 1, by go_num, by omega, HN.out, hbel.setCell (Nat.le_refl _) _⟩
      case measure => simp [intOf]; omega
    · have hk64 : k = 64 := by omega
      have hbk' : wr.heap[w.heap.size]? = some (.cells tabA 115 (0, 0)) := by rw [hbk, hk64]; rfl
      have hsf := setRow_self wr w.heap.size tabA 115 (0, 0) hbk'
      have HB := Lib.hid hbk'
      have HSF := Lib.hid hsf
      clear hbk hbk' hsf
      go_wp2_with (first
        | refine wpList_load_row rfl 115 (.tmp 0) rfl w.heap.size rfl 115 tabA (0, 0) _ HB.out Tryz.underlying115 rfl (by rw [tabA_size]; kernel_rfl) ?_
        | (refine wpList_store_row rfl 115 (.tmp 0) (.tmp 12) rfl w.heap.size tabA rfl rfl 115 tabA HB.out (by rw [tabA_size]; kernel_rfl) rfl tabA_one ?_; rw [HSF.out]))
      refine bodyPost_ret (v := .agg tabA) ?_ rfl ⟨rfl, hbel⟩
      exact results_cell_row rfl _ _ w.heap.size 115 tabA (0, 0) _ rfl HB.out Tryz.underlying115 rfl (by rw [tabA_size]; kernel_rfl)
end Go.Proofs.YtnclbbgdfaeilaaGreatDoor
