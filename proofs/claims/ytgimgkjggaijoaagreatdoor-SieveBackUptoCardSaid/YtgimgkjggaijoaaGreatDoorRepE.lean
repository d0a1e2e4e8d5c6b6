/- Walks: (*strings.Replacer).Replace of a Replacer just made. -/
import Derived.Test.YtgimgkjggaijoaaGreatDoorRepD
import Derived.Outline
import Derived.RegionCalls
namespace Go.Proofs.YtgimgkjggaijoaaGreatDoor
open Go.RowKit Pk Rp

theorem row_setv {w : World} {b j : Nat} {cs : Array Value} {t : TypeId} {fz : Nat × Nat} {x : Value} (h : w.heap[b]? = some (Obj.cells cs t fz)) : (w.setCell ⟨b, j, none⟩ x).heap[b]? = some (Obj.cells (cs.setIfInBounds j x) t fz) := by
  simp [World.setCell, Array.getElem?_modify, h]
def RepDone (R B r : Nat) (ps : List (UInt8 × ByteArray)) (w w' : World) : Prop := Tab w' R B ps ∧ w'.cell? ⟨r, 3, none⟩ = some (.iface 201 (.pointer (some ⟨R, 0, none⟩))) ∧ Below (min r w.heap.size) w w'
theorem once_any (r g cp : Nat) (ps : List (UInt8 × ByteArray)) (w : World) (hn : ps.length ≤ 100) (h1 : 2 ≤ ps.length) (hnd : (ps.map (·.1)).Nodup) (hnew : (ps.all fun p => p.2.size == 1) = false)
    (hrow : w.heap[r]? = some (.cells #[.int .u32 0, .int .i32 0, .int .u32 0, .nilIface, .slice (some ⟨g, 0, none⟩) (2 * ps.length) cp] 150 (0, 0))) (hc : ∀ j (h : j < (inter ps).length), w.cell? ⟨g, j, none⟩ = some (.string (inter ps)[j])) (hgr : g ≠ r) :
    Calls Tryz.prog 104 #[.pointer (some ⟨r, 0, none⟩), .func (.func 105) #[.pointer (some ⟨r, 0, none⟩)] #[]] w fun e w' => e = .returned (.tuple #[]) ∧ ∃ R, RepDone R w.heap.size r ps w w' := by
  have hr := lt_of_block hrow
  have hO : OnceAt w r 0 0 := ⟨(Lib.cell_of_heap hrow 0).trans rfl, (Lib.cell_of_heap hrow 1).trans rfl, frozen_of hrow, frozen_of hrow⟩
  have hrow1 := row_setv (j := 1) (x := .int .i32 1) hrow
  have hz1 : (w.setCell ⟨r, 1, none⟩ (.int .i32 1)).heap.size = w.heap.size := by simp [World.setCell]
  have hB := once_build r g cp ps (w.setCell ⟨r, 1, none⟩ (.int .i32 1)) hn h1 hnd hnew ⟨_, _, _, _, hrow1⟩ (fun j h => by
    rw [World.cell?_setCell_other _ _ _ _ (fun e => hgr (congrArg Addr.block e).symm)]
    exact hc j h)
  have hD := do_first r (fun w2 => ∃ R w3, Tab w3 R w.heap.size ps ∧ Below w.heap.size (w.setCell ⟨r, 1, none⟩ (.int .i32 1)) w3 ∧ w2 = (w3.setCell ⟨r, 3, none⟩ (.iface 201 (.pointer (some ⟨R, 0, none⟩)))).setCell ⟨r, 4, none⟩ (.slice none 0 0)) w hO (hB.mono fun e w2 ⟨he, R, w3, hT, hR, hb, hw⟩ => by
    rw [hz1] at hT hb hR
    have h3 := (hb.block r hr).trans hrow1
    have h4 := row_setv (j := 3) (x := .iface 201 (.pointer (some ⟨R, 0, none⟩))) h3
    have h5 := row_setv (j := 4) (x := .slice none 0 0) h4
    subst hw
    exact ⟨he, ⟨(Lib.cell_of_heap h5 0).trans rfl, (Lib.cell_of_heap h5 1).trans rfl, frozen_of h5, frozen_of h5⟩, R, w3, hT, hb, rfl⟩)
  refine hD.mono ?_
  rintro e w' ⟨rfl, w2, ⟨R, w3, hT, hb, rfl⟩, rfl⟩
  refine ⟨rfl, R, ?_⟩
  have h3 := (hb.block r hr).trans hrow1
  have h4 := row_setv (j := 3) (x := .iface 201 (.pointer (some ⟨R, 0, none⟩))) h3
  have h5 := row_setv (j := 4) (x := .slice none 0 0) h4
  have t4 := Tab.set (j := 3) (x := .iface 201 (.pointer (some ⟨R, 0, none⟩))) hT h3
  have t5 := Tab.set (j := 4) (x := .slice none 0 0) t4 h4
  have c3 : ((w3.setCell ⟨r, 3, none⟩ (.iface 201 (.pointer (some ⟨R, 0, none⟩)))).setCell ⟨r, 4, none⟩ (.slice none 0 0)).cell? ⟨r, 3, none⟩ = some (.iface 201 (.pointer (some ⟨R, 0, none⟩))) := (Lib.cell_of_heap h5 3).trans rfl
  have b5 : Below (min r w.heap.size) w ((w3.setCell ⟨r, 3, none⟩ (.iface 201 (.pointer (some ⟨R, 0, none⟩)))).setCell ⟨r, 4, none⟩ (.slice none 0 0)) :=
    ((((Below.refl _ w).setCell (p := ⟨r, 1, none⟩) (Nat.min_le_left _ _) _).trans (hb.mono (Nat.min_le_right _ _))).setCell (p := ⟨r, 3, none⟩) (Nat.min_le_left _ _) _).setCell (p := ⟨r, 4, none⟩) (Nat.min_le_left _ _) _
  generalize ((w3.setCell ⟨r, 3, none⟩ (.iface 201 (.pointer (some ⟨R, 0, none⟩)))).setCell ⟨r, 4, none⟩ (.slice none 0 0)) = w4 at *
  have t6 : Tab w4.drew R w.heap.size ps := t5.kept rfl (fun _ _ _ _ => rfl)
  have h6 : w4.drew.heap[r]? = _ := h5
  have t7 := Tab.set (j := 0) (x := .int .u32 1) t6 h6
  have h7 := row_setv (j := 0) (x := .int .u32 1) h6
  have t8 := Tab.set (j := 1) (x := .int .i32 0) t7 h7
  refine ⟨t8, ?_, ((b5.drew.setCell (p := ⟨r, 0, none⟩) (Nat.min_le_left _ _) _).setCell (p := ⟨r, 1, none⟩) (Nat.min_le_left _ _) _)⟩
  rw [World.cell?_setCell_other _ _ _ _ (fun e => by cases e), World.cell?_setCell_other _ _ _ _ (fun e => by cases e)]
  exact c3
theorem method_rep (k : Nat) (a : Addr) (w : World) : (method (k + 1) 201 (.pointer (some a)) "Replace").run Tryz.prog w = .ok (224, .pointer (some a)) w := by kernel_rfl
theorem inter_Tab {ps : List (UInt8 × ByteArray)} (h : 1 ≤ ps.length) : 1 ≤ (inter ps).length := by rw [inter_length]; omega
set_option maxRecDepth 100000 in
set_option maxHeartbeats 1600000 in
theorem replace_any (r B : Nat) (v : Value) (ps : List (UInt8 × ByteArray)) (s : ByteArray) (w : World) (hs : s.size ≤ 1000000) (hn : ps.length ≤ 100) (h1 : 2 ≤ ps.length) (hnd : (ps.map (·.1)).Nodup) (hnew : (ps.all fun p => p.2.size == 1) = false) (hM : ∀ p ∈ ps, p.2.size ≤ 1000)
    (hrow : w.heap[r]? = some (.cells #[.int .u32 0, .int .i32 0, .int .u32 0, .nilIface, v] 150 (0, 0))) (hown : ownsS w B 9 v (inter ps)) :
    Calls Tryz.prog 63 #[.pointer (some ⟨r, 0, none⟩), .string s] w fun e w' => e = .returned (.string ⟨(repA ps s.data.toList).toArray⟩) ∧ Below r w w' := by
  rcases hown.form with ⟨rfl, he⟩ | ⟨g, cp, rfl, hBg, hlc, hcm, hcells⟩
  · exfalso
    have := congrArg List.length he
    rw [inter_length, List.length_nil] at this
    omega
  · have hgr : g ≠ r := by
      rcases hown.2 with ⟨hx, _⟩ | ⟨g', cap', cur', hx, _, hg', _⟩
      · cases hx
      · injection hx with hx _ _
        injection hx with hx
        injection hx with hx
        subst hx
        exact other_type hg' hrow (by decide)
    rw [inter_length] at hrow
    have hr := lt_of_block hrow
    have hO := once_any r g cp ps w hn h1 hnd hnew hrow hcells hgr
    have HO := Lib.hid hO
    have hb2 := fun R (w' : World) (hT : Tab w' R w.heap.size ps) => bsr_any R w.heap.size ps s w' hT hs hn (by omega) hnd hM
    have HB2 := Lib.hid hb2
    have hm := method_rep
    clear hO hb2 hown hcells hrow hnd hnew hM
    go_enter Tryz.func63, Tryz.ntmps63
    go_wp2_with (first
      | (go_at_call 104; (with_reducible refine HO.out.mono ?_); rintro e w1 ⟨rfl, R, hT, hc3, hb1⟩)
      | (go_at_call 224; (with_reducible refine (HB2.out R _ hT).mono ?_); rintro e w2 ⟨rfl, hb2⟩))
    go_ret
    rw [Nat.min_eq_left (by omega)] at hb1
    exact ⟨rfl, hb1.trans (hb2.mono (by have := hb1.size; omega))⟩
end Go.Proofs.YtgimgkjggaijoaaGreatDoor
