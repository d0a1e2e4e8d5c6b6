/- Walks: (*strings.byteReplacer).Replace, and (*strings.Replacer).Replace of what header.Put makes. -/
import Derived.Test.YthchklbnkojkgaaGreatDoorRepN
namespace Go.Proofs.YthchklbnkojkgaaGreatDoor
open Go.RowKit Pk Hd

set_option maxHeartbeats 4000000 in
set_option maxRecDepth 100000 in
theorem brN_any (R : Nat) (s : ByteArray) (w : World) (hT : TabN w R spcN) (hs : s.size ≤ 10000000) :
    Calls Tryz.prog 147 #[.pointer (some ⟨R, 0, none⟩), .string s] w fun e w' => e = .returned (.string (toB (s.data.toList.map spc))) ∧ Below w.heap.size w w' := by
  have hRl := hT.lt
  have hnl := fun (w : World) (a : Option Addr) (n c : Nat) => run_eql_nil_slice (P := Tryz.prog) w 47 5 a n c 0 0 Tryz.underlying47
  have hel := fun (w : World) (a : Option Addr) (n c : Nat) => Lib.run_eql_slice_nil (P := Tryz.prog) w 47 5 a n c 0 0 Tryz.underlying47
  go_enter Tryz.func147, Tryz.ntmps147
  go_wp2
  go_loopw [5, 6, 7] (fun bv iv _ wr => ∃ k : Nat, iv = .int .i64 k ∧ k ≤ s.size ∧ Below w.heap.size w wr ∧ ((bv = .slice none 0 0 ∧ mixN s k = s.data.toList) ∨ (∃ g cp, bv = .slice (some ⟨g, 0, none⟩) s.size cp ∧ w.heap.size ≤ g ∧ rowF wr g 5 (mixN s k)))) (fun _ iv _ _ => s.size - (intOf iv).toNat)
  case atStart => exact ⟨0, by first | rfl | trivial, by omega, Below.refl _ _, .inl ⟨rfl, mixN_zero s⟩⟩
  case round =>
    obtain ⟨k, rfl, hk, hbel, hrel⟩ := hrel
    have hz := hbel.size
    by_cases hlt : k < s.size
    · have hT2 := hT.below hbel hRl
      have hcell := hT2.cell s[k].toNat s[k].toNat_lt
      rw [spcN_spc] at hcell
      have hkb : (s[k].toNat : Int) < 256 := by have := s[k].toNat_lt; omega
      by_cases hsp : spc s[k] = s[k]
      · have q : (((spc s[k]).toNat : Int) != (s[k].toNat : Int)) = false := by rw [hsp]; simp
        have hm := mixN_same s k hlt hsp
        rw [hm] at hrel
        clear hT2 hm hsp
        rcases hrel with ⟨rfl, hrel⟩ | ⟨g, cp, rfl, hg, hrow⟩
        · go_wp2
          go_roundw
          case rel => exact ⟨k + 1, by go_num, by omega, hbel, .inl ⟨rfl, hrel⟩⟩
          case measure => simp [intOf]; omega
        · go_wp2
          go_roundw
          case rel => exact ⟨k + 1, by go_num, by omega, hbel, .inr ⟨g, cp, rfl, hg, hrow⟩⟩
          case measure => simp [intOf]; omega
      · have q : (((spc s[k]).toNat : Int) != (s[k].toNat : Int)) = true := by
          rw [bne_iff_ne]; intro e; exact hsp (UInt8.toNat_inj.1 (by exact_mod_cast e))
        have hx1 : (0 : Int) ≤ ((spc s[k]).toNat : Int) := by omega
        have hx2 : ((spc s[k]).toNat : Int) < 256 := by have := (spc s[k]).toNat_lt; omega
        have hb8 : b8 ((spc s[k]).toNat : Int) = spc s[k] := b8_of _
        have hstp := mixN_step s k hlt
        rcases hrel with ⟨rfl, hrel⟩ | ⟨g, cp, rfl, hg, hrow⟩
        · obtain ⟨cp, w1, hcv, hrow, hb1, hz1⟩ := conv_row (P := Tryz.prog) wr 9 47 5 s Tryz.underlying9 Tryz.underlying47 Tryz.underlying5
          rw [← hrel] at hrow
          have hf := rowF_frozen hrow k (by rw [mixN_length]; exact hlt)
          have hck := rowF_cell hrow k (by rw [mixN_length]; exact hlt)
          have hT3 := (hT2.below hb1 hT2.lt).cell s[k].toNat s[k].toNat_lt
          rw [spcN_spc] at hT3
          have hrow2 := rowF_stored hrow k _ hx1 hx2
          rw [hb8, hstp] at hrow2
          have hbel2 := (hbel.trans (hb1.mono hz)).setCell (p := ⟨wr.heap.size, k, none⟩) hz (.int .u8 (spc s[k]).toNat)
          clear hrow hT2 hstp hsp
          go_wp2
          go_roundw
          case rel => exact ⟨k + 1, by go_num, by omega, hbel2, .inr ⟨_, cp, rfl, hz, hrow2⟩⟩
          case measure => simp [intOf]; omega
        · have hf := rowF_frozen hrow k (by rw [mixN_length]; exact hlt)
          have hck := rowF_cell hrow k (by rw [mixN_length]; exact hlt)
          have hrow2 := rowF_stored hrow k _ hx1 hx2
          rw [hb8, hstp] at hrow2
          have hbel2 := hbel.setCell (p := ⟨g, k, none⟩) hg (.int .u8 (spc s[k]).toNat)
          clear hrow hT2 hstp hsp
          go_wp2
          go_roundw
          case rel => exact ⟨k + 1, by go_num, by omega, hbel2, .inr ⟨g, cp, rfl, hg, hrow2⟩⟩
          case measure => simp [intOf]; omega
    · obtain rfl : k = s.size := by omega
      rw [mixN_end] at hrel
      rcases hrel with ⟨rfl, hrel⟩ | ⟨g, cp, rfl, hg, hrow⟩
      · have hpost : Hid (toB (s.data.toList.map spc) = s) := by show _ = _; rw [hrel, toB_back]
        clear hrel
        go_wp2
        go_ret
        exact ⟨by rw [hpost.out]; rfl, hbel⟩
      · have hcv := run_string_row (P := Tryz.prog) (ts := 9) (n := s.size) (cap := cp) bslH Tryz.underlying9 hrow (by rw [List.length_map]; rfl)
        clear hrow
        go_wp2
        go_ret
        exact ⟨rfl, hbel⟩
theorem row_setv {w : World} {b j : Nat} {cs : Array Value} {t : TypeId} {fz : Nat × Nat} {x : Value} (h : w.heap[b]? = some (Obj.cells cs t fz)) : (w.setCell ⟨b, j, none⟩ x).heap[b]? = some (Obj.cells (cs.setIfInBounds j x) t fz) := by
  simp [World.setCell, Array.getElem?_modify, h]
theorem TabN.other {w : World} {R r j : Nat} {f : Nat → Nat} {cs : Array Value} {fz : Nat × Nat} {x : Value} (h : TabN w R f) (hr : w.heap[r]? = some (Obj.cells cs 77 fz)) : TabN (w.setCell ⟨r, j, none⟩ x) R f := by
  have h0 := h
  obtain ⟨cs', hrow, hsz⟩ := h0
  exact h.block (Below.heap_setCell _ _ _ _ (other_type hrow hr (by decide)))
set_option maxRecDepth 100000 in
theorem onceN_build (r g cp : Nat) (w : World)
    (hrow : ∃ x0 x1 x2 x3, w.heap[r]? = some (.cells #[x0, x1, x2, x3, .slice (some ⟨g, 0, none⟩) 4 cp] 77 (0, 0))) (hc : ∀ j (h : j < fourN.length), w.cell? ⟨g, j, none⟩ = some (.string fourN[j])) :
    Calls Tryz.prog 46 #[.pointer (some ⟨r, 0, none⟩)] w fun e w' => e = .returned (.tuple #[]) ∧ ∃ R w2, TabN w2 R spcN ∧ w.heap.size ≤ R ∧ Below w.heap.size w w2 ∧ w' = (w2.setCell ⟨r, 3, none⟩ (.iface 111 (.pointer (some ⟨R, 0, none⟩)))).setCell ⟨r, 4, none⟩ (.slice none 0 0) := by
  obtain ⟨x0, x1, x2, x3, hrow⟩ := hrow
  have hr := lt_of_block hrow
  have hB := buildN_any r g cp w ((Lib.cell_of_heap hrow 4).trans rfl) (hc 0 (by decide)) (hc 1 (by decide)) (hc 2 (by decide)) (hc 3 (by decide))
  have HB := Lib.hid hB
  have HROW := Lib.hid hrow
  clear hB hc hrow
  go_enter Tryz.func46, Tryz.ntmps46
  go_upto_region 1 with (go_at_call 66; (with_reducible refine HB.out.mono ?_); rintro e w2 ⟨R, rfl, hR, hT, hb2⟩; have c3 := (Lib.cell_of_heap ((hb2.block r hr).trans HROW.out) 3).trans rfl; have f3 := frozen_of (j := 3) ((hb2.block r hr).trans HROW.out))
  have hrow2 := (hb2.block r hr).trans HROW.out
  obtain ⟨cs3, hrow3, -⟩ := row_set (j := 3) (x := .iface 111 (.pointer (some ⟨R, 0, none⟩))) hrow2
  have f4 := frozen_of (j := 4) hrow3
  have c4 := (World.cell?_setCell_other w2 ⟨r, 3, none⟩ ⟨r, 4, none⟩ (.iface 111 (.pointer (some ⟨R, 0, none⟩))) (by simp)).trans ((Lib.cell_of_heap hrow2 4).trans rfl)
  have HT := Lib.hid hT
  clear hrow2 hrow3 c3 f3 hT
  go_wp2
  go_end0
  exact ⟨rfl, R, w2, HT.out, hR, hb2, rfl⟩
def RepDoneN (R r : Nat) (w w' : World) : Prop := TabN w' R spcN ∧ w'.cell? ⟨r, 3, none⟩ = some (.iface 111 (.pointer (some ⟨R, 0, none⟩))) ∧ Below (min r w.heap.size) w w'
theorem onceN_any (r g cp : Nat) (w : World)
    (hrow : w.heap[r]? = some (.cells #[.int .u32 0, .int .i32 0, .int .u32 0, .nilIface, .slice (some ⟨g, 0, none⟩) 4 cp] 77 (0, 0))) (hc : ∀ j (h : j < fourN.length), w.cell? ⟨g, j, none⟩ = some (.string fourN[j])) (hgr : g ≠ r) :
    Calls Tryz.prog 45 #[.pointer (some ⟨r, 0, none⟩), .func (.func 46) #[.pointer (some ⟨r, 0, none⟩)] #[]] w fun e w' => e = .returned (.tuple #[]) ∧ ∃ R, RepDoneN R r w w' := by
  have hr := lt_of_block hrow
  have hO : OnceAt w r 0 0 := ⟨(Lib.cell_of_heap hrow 0).trans rfl, (Lib.cell_of_heap hrow 1).trans rfl, frozen_of hrow, frozen_of hrow⟩
  have hrow1 := row_setv (j := 1) (x := .int .i32 1) hrow
  have hz1 : (w.setCell ⟨r, 1, none⟩ (.int .i32 1)).heap.size = w.heap.size := by simp [World.setCell]
  have hB := onceN_build r g cp (w.setCell ⟨r, 1, none⟩ (.int .i32 1)) ⟨_, _, _, _, hrow1⟩ (fun j h => by
    rw [World.cell?_setCell_other _ _ _ _ (fun e => hgr (congrArg Addr.block e).symm)]
    exact hc j h)
  have hD := do_first r (fun w2 => ∃ R w3, TabN w3 R spcN ∧ Below w.heap.size (w.setCell ⟨r, 1, none⟩ (.int .i32 1)) w3 ∧ w2 = (w3.setCell ⟨r, 3, none⟩ (.iface 111 (.pointer (some ⟨R, 0, none⟩)))).setCell ⟨r, 4, none⟩ (.slice none 0 0)) w hO (hB.mono fun e w2 ⟨he, R, w3, hT, hR, hb, hw⟩ => by
    rw [hz1] at hb hR
    have h3 := (hb.block r hr).trans hrow1
    have h4 := row_setv (j := 3) (x := .iface 111 (.pointer (some ⟨R, 0, none⟩))) h3
    have h5 := row_setv (j := 4) (x := .slice none 0 0) h4
    subst hw
    exact ⟨he, ⟨(Lib.cell_of_heap h5 0).trans rfl, (Lib.cell_of_heap h5 1).trans rfl, frozen_of h5, frozen_of h5⟩, R, w3, hT, hb, rfl⟩)
  refine hD.mono ?_
  rintro e w' ⟨rfl, w2, ⟨R, w3, hT, hb, rfl⟩, rfl⟩
  refine ⟨rfl, R, ?_⟩
  have h3 := (hb.block r hr).trans hrow1
  have h4 := row_setv (j := 3) (x := .iface 111 (.pointer (some ⟨R, 0, none⟩))) h3
  have h5 := row_setv (j := 4) (x := .slice none 0 0) h4
  have t4 := TabN.other (j := 3) (x := .iface 111 (.pointer (some ⟨R, 0, none⟩))) hT h3
  have t5 := TabN.other (j := 4) (x := .slice none 0 0) t4 h4
  have c3 : ((w3.setCell ⟨r, 3, none⟩ (.iface 111 (.pointer (some ⟨R, 0, none⟩)))).setCell ⟨r, 4, none⟩ (.slice none 0 0)).cell? ⟨r, 3, none⟩ = some (.iface 111 (.pointer (some ⟨R, 0, none⟩))) := (Lib.cell_of_heap h5 3).trans rfl
  have b5 : Below (min r w.heap.size) w ((w3.setCell ⟨r, 3, none⟩ (.iface 111 (.pointer (some ⟨R, 0, none⟩)))).setCell ⟨r, 4, none⟩ (.slice none 0 0)) :=
    ((((Below.refl _ w).setCell (p := ⟨r, 1, none⟩) (Nat.min_le_left _ _) _).trans (hb.mono (Nat.min_le_right _ _))).setCell (p := ⟨r, 3, none⟩) (Nat.min_le_left _ _) _).setCell (p := ⟨r, 4, none⟩) (Nat.min_le_left _ _) _
  generalize ((w3.setCell ⟨r, 3, none⟩ (.iface 111 (.pointer (some ⟨R, 0, none⟩)))).setCell ⟨r, 4, none⟩ (.slice none 0 0)) = w4 at *
  have t6 : TabN w4.drew R spcN := t5.block rfl
  have h6 : w4.drew.heap[r]? = _ := h5
  have t7 := TabN.other (j := 0) (x := .int .u32 1) t6 h6
  have h7 := row_setv (j := 0) (x := .int .u32 1) h6
  have t8 := TabN.other (j := 1) (x := .int .i32 0) t7 h7
  refine ⟨t8, ?_, ((b5.drew.setCell (p := ⟨r, 0, none⟩) (Nat.min_le_left _ _) _).setCell (p := ⟨r, 1, none⟩) (Nat.min_le_left _ _) _)⟩
  rw [World.cell?_setCell_other _ _ _ _ (fun e => by cases e), World.cell?_setCell_other _ _ _ _ (fun e => by cases e)]
  exact c3
theorem methodN_rep (k : Nat) (a : Addr) (w : World) : (method (k + 1) 111 (.pointer (some a)) "Replace").run Tryz.prog w = .ok (147, .pointer (some a)) w := by kernel_rfl
set_option maxRecDepth 100000 in
set_option maxHeartbeats 1600000 in
theorem replaceN_any (r B : Nat) (v : Value) (s : ByteArray) (w : World) (hs : s.size ≤ 10000000)
    (hrow : w.heap[r]? = some (.cells #[.int .u32 0, .int .i32 0, .int .u32 0, .nilIface, v] 77 (0, 0))) (hown : ownsS w B 9 v fourN) :
    Calls Tryz.prog 34 #[.pointer (some ⟨r, 0, none⟩), .string s] w fun e w' => e = .returned (.string (toB (s.data.toList.map spc))) ∧ Below r w w' := by
  rcases hown.form with ⟨rfl, he⟩ | ⟨g, cp, rfl, hBg, hlc, hcm, hcells⟩
  · cases he
  · have hgr : g ≠ r := by
      rcases hown.2 with ⟨hx, _⟩ | ⟨g', cap', cur', hx, _, hg', _⟩
      · cases hx
      · injection hx with hx _ _
        injection hx with hx
        injection hx with hx
        subst hx
        exact other_type hg' hrow (by decide)
    have hrow : w.heap[r]? = some (.cells #[.int .u32 0, .int .i32 0, .int .u32 0, .nilIface, .slice (some ⟨g, 0, none⟩) 4 cp] 77 (0, 0)) := hrow
    have hr := lt_of_block hrow
    have hO := onceN_any r g cp w hrow hcells hgr
    have HO := Lib.hid hO
    have hb2 := fun R (w' : World) (hT : TabN w' R spcN) => brN_any R s w' hT hs
    have HB2 := Lib.hid hb2
    have hm := methodN_rep
    clear hO hb2 hown hcells hrow
    go_enter Tryz.func34, Tryz.ntmps34
    go_wp2_with (first
      | (go_at_call 45; (with_reducible refine HO.out.mono ?_); rintro e w1 ⟨rfl, R, hT, hc3, hb1⟩)
      | (go_at_call 147; (with_reducible refine (HB2.out R _ hT).mono ?_); rintro e w2 ⟨rfl, hb2⟩))
    go_ret
    rw [Nat.min_eq_left (by omega)] at hb1
    exact ⟨rfl, hb1.trans (hb2.mono (by have := hb1.size; omega))⟩
end Go.Proofs.YthchklbnkojkgaaGreatDoor
