/- Walks: strings.Replacer, where every string is one byte: build, byteReplacer.Replace, Replace: what header.Put asks of it. Walks: (*strings.byteReplacer).Replace, and (*strings.Replacer).Replace of what header.Put makes. -/
import Derived.Test.YtnclbbgdfaeilaaGreatDoorRepX
import Derived.Test.YtnclbbgdfaeilaaGreatDoorHdW
import Derived.Outline
import Derived.RegionCalls
namespace Go.Proofs.YtnclbbgdfaeilaaGreatDoor
open Go.RowKit Pk Hd

/-- the table of a byteReplacer -/
def TabN (w : World) (R : Nat) (f : Nat → Nat) : Prop := ∃ cs, w.heap[R]? = some (.cells cs 137 (0, 0)) ∧ cs.size = 256 ∧ ∀ j, j < 256 → cs[j]? = some (.int .u8 (f j : Nat))
theorem TabN.cell {w : World} {R : Nat} {f : Nat → Nat} (h : TabN w R f) (j : Nat) (hj : j < 256) : w.cell? ⟨R, j, none⟩ = some (.int .u8 (f j : Nat)) := by
  obtain ⟨cs, h1, h2, h3⟩ := h
  exact (Lib.cell_of_heap h1 j).trans (h3 j hj)
theorem TabN.frozen {w : World} {R : Nat} {f : Nat → Nat} (h : TabN w R f) (j : Nat) : w.frozen? ⟨R, j, none⟩ = false := by
  obtain ⟨cs, h1, h2, h3⟩ := h
  simp [World.frozen?, h1]
theorem TabN.lt {w : World} {R : Nat} {f : Nat → Nat} (h : TabN w R f) : R < w.heap.size := by
  obtain ⟨cs, h1, h2, h3⟩ := h
  exact lt_of_block h1
theorem TabN.set {w : World} {R : Nat} {f g : Nat → Nat} (h : TabN w R f) (j : Nat) (hj : j < 256) (x : Nat) (hg : ∀ i, i < 256 → g i = if i = j then x else f i) : TabN (w.setCell ⟨R, j, none⟩ (.int .u8 (x : Nat))) R g := by
  obtain ⟨cs, h1, h2, h3⟩ := h
  refine ⟨cs.setIfInBounds j (.int .u8 (x : Nat)), by simp [World.setCell, Array.getElem?_modify, h1], by simpa using h2, fun i hi => ?_⟩
  rw [Array.getElem?_setIfInBounds, hg i hi]
  by_cases e : j = i
  · subst e; rw [if_pos rfl, if_pos (by omega), if_pos rfl]
  · rw [if_neg e, if_neg (fun x => e x.symm)]; exact h3 i hi
theorem TabN.block {w w' : World} {R : Nat} {f : Nat → Nat} (h : TabN w R f) (hb : w'.heap[R]? = w.heap[R]?) : TabN w' R f := by
  obtain ⟨cs, h1, h2, h3⟩ := h
  exact ⟨cs, hb.trans h1, h2, h3⟩
theorem TabN.below {w w' : World} {R B : Nat} {f : Nat → Nat} (h : TabN w R f) (hb : Below B w w') (hR : R < B) : TabN w' R f := h.block (hb.block R hR)
def isZ0 : Option Value → Bool
  | some (.int .u8 0) => true
  | _ => false
theorem zN_size : Tryz.zeroCells137.size = 256 := by kernel_rfl
theorem zN_at (j : Nat) (h : j < 256) : Tryz.zeroCells137[j]? = some (.int .u8 0) := by
  have hk : ∀ j : Nat, j < 256 → isZ0 (Tryz.zeroCells137[j]?) = true := by decide +kernel
  have h2 := hk j h
  generalize Tryz.zeroCells137[j]? = o at h2
  unfold isZ0 at h2
  split at h2
  · rfl
  · cases h2
set_option maxRecDepth 100000 in
theorem zN_store (W : World) : Sem.run Tryz.prog (storeCells ⟨W.heap.size, 0, none⟩ Tryz.zeroCells137.toList) (W.alloc (.cells Tryz.zeroCells137 137)) = .ok () (W.alloc (.cells Tryz.zeroCells137 137)) :=
  run_storeCells_new (P := Tryz.prog) W 137 Tryz.zeroCells137 Tryz.zeroCells137 (by rw [zN_size]; kernel_rfl) rfl (by
    rw [Array.all_eq_true]
    intro j hj
    rw [zN_size] at hj
    have hg : ∀ x, Tryz.zeroCells137[j]? = some x → ∀ h, Tryz.zeroCells137[j]'h = x := fun x hx h => by
      rw [Array.getElem?_eq_getElem h] at hx
      exact Option.some.inj hx
    rw [hg _ (zN_at j hj) _]; rfl)
theorem TabN.zero (w : World) : TabN (w.alloc (.cells Tryz.zeroCells137 137)) w.heap.size (fun j => if j < 0 then j else 0) :=
  ⟨_, heap_alloc_new w _, zN_size, fun j hj => by rw [zN_at j hj]; rfl⟩
def spcN (j : Nat) : Nat := if j = 13 ∨ j = 10 then 32 else j
theorem spcN_spc (c : UInt8) : spcN c.toNat = (spc c).toNat := by
  unfold spcN spc
  by_cases h : c = 13 ∨ c = 10
  · rw [if_pos h, if_pos (by rcases h with rfl | rfl; exact .inl rfl; exact .inr rfl)]; rfl
  · rw [if_neg h, if_neg]
    rintro (e | e)
    · exact h (.inl (UInt8.toNat_inj.1 e))
    · exact h (.inr (UInt8.toNat_inj.1 e))
def BuiltN (w : World) (e : Ending) (w' : World) : Prop := ∃ R, e = .returned (.iface 138 (.pointer (some ⟨R, 0, none⟩))) ∧ w.heap.size ≤ R ∧ TabN w' R spcN ∧ Below w.heap.size w w'
def fourN : List ByteArray := [⟨#[13]⟩, ⟨#[32]⟩, ⟨#[10]⟩, ⟨#[32]⟩]
set_option maxHeartbeats 4000000 in
set_option maxRecDepth 100000 in
theorem buildN_any (r g cp : Nat) (w : World)
    (hv : w.cell? ⟨r, 4, none⟩ = some (.slice (some ⟨g, 0, none⟩) 4 cp)) (hc0 : w.cell? ⟨g, 0, none⟩ = some (.string ⟨#[13]⟩)) (hc1 : w.cell? ⟨g, 1, none⟩ = some (.string ⟨#[32]⟩)) (hc2 : w.cell? ⟨g, 2, none⟩ = some (.string ⟨#[10]⟩)) (hc3 : w.cell? ⟨g, 3, none⟩ = some (.string ⟨#[32]⟩)) :
    Calls Tryz.prog 90 #[.pointer (some ⟨r, 0, none⟩)] w (BuiltN w) := by
  go_enter Tryz.func90, Tryz.ntmps90
  go_upto_block 0 with fail
  go_cut [4] (fun av wx => av = .bool true ∧ wx = w)
  case first =>
    go_wp2_with fail
    go_loopw [4, 5] (fun av iv wr => (iv = .int .i64 0 ∨ iv = .int .i64 2 ∨ iv = .int .i64 4) ∧ av = .bool true ∧ wr = w) (fun _ iv _ => 4 - (intOf iv).toNat)
    case atStart => exact ⟨.inl (by first | rfl | trivial), by first | rfl | trivial, rfl⟩
    case round =>
      obtain ⟨hi, rfl, rfl⟩ := hrel
      rcases hi with rfl | rfl | rfl
      · go_wp2
        go_roundw
        case rel => exact ⟨.inr (.inl (by first | rfl | go_num)), by first | rfl | trivial, by first | rfl | trivial⟩
        case measure => simp [intOf]
      · go_wp2
        go_roundw
        case rel => exact ⟨.inr (.inr (by first | rfl | go_num)), by first | rfl | trivial, by first | rfl | trivial⟩
        case measure => simp [intOf]
      · go_wp2
        go_meet
        exact ⟨rfl, rfl⟩
  case rest =>
    obtain ⟨rfl, rfl⟩ := hcut
    have hzz := zN_store
    have hT0 := TabN.zero wc
    have hb0 : Below wc.heap.size wc (wc.alloc (.cells Tryz.zeroCells137 137)) := (Below.refl _ _).alloc (Nat.le_refl _) _
    go_upto_block 14 with fail
    clear hzz
    go_loopw [61] (fun iv wr => ∃ i : Nat, iv = .int .i64 i ∧ i ≤ 256 ∧ TabN wr wc.heap.size (fun j => if j < i then j else 0) ∧ Below wc.heap.size wc wr) (fun iv _ => 256 - (intOf iv).toNat)
    case atStart => exact ⟨0, by first | rfl | trivial, by omega, hT0, hb0⟩
    case round =>
      clear hT0 hb0
      obtain ⟨i, rfl, hi, hT, hbel⟩ := hrel
      by_cases hlt : i < 256
      · have hc := hT.cell i hlt
        have hf := hT.frozen i
        have hT2 := hT.set (g := fun j => if j < i + 1 then j else 0) i hlt i (fun j _ => by
          by_cases e : j = i
          · rw [if_pos e, if_pos (by omega)]; exact e
          · rw [if_neg e]
            by_cases h2 : j < i
            · rw [if_pos h2, if_pos (by omega)]
            · rw [if_neg h2, if_neg (by omega)])
        have hbel2 := hbel.setCell (p := ⟨wc.heap.size, i, none⟩) (Nat.le_refl _) (.int .u8 (i : Nat))
        have hw8 : IntKind.u8.wrap (i : Int) = (i : Int) := w8 (by omega) (by omega)
        clear hT
        go_wp2
        go_roundw
        case rel => exact ⟨i + 1, by go_num, by omega, hT2, hbel2⟩
        case measure => simp [intOf]; omega
      · obtain rfl : i = 256 := by omega
        have hd0 := cell_later hbel hc0
        have hd1 := cell_later hbel hc1
        have hd2 := cell_later hbel hc2
        have hd3 := cell_later hbel hc3
        go_wp2
        go_loopw [8] (fun iv w2 => (iv = .int .i64 2 ∧ w2 = wr) ∨ (iv = .int .i64 0 ∧ w2 = wr.setCell ⟨wc.heap.size, 10, none⟩ (.int .u8 32)) ∨ (iv = .int .i64 (-2) ∧ w2 = (wr.setCell ⟨wc.heap.size, 10, none⟩ (.int .u8 32)).setCell ⟨wc.heap.size, 13, none⟩ (.int .u8 32))) (fun iv _ => (intOf iv + 2).toNat)
        case atStart => exact .inl ⟨by first | rfl | trivial, rfl⟩
        case round =>
          have e10 : ((⟨#[10]⟩ : ByteArray)[0]'(by decide)).toNat = 10 := rfl
          have e13 : ((⟨#[13]⟩ : ByteArray)[0]'(by decide)).toNat = 13 := rfl
          have e32 : ((⟨#[32]⟩ : ByteArray)[0]'(by decide)).toNat = 32 := rfl
          have hg0 : g < wc.heap.size := World.block_lt_of_cell? _ _ hc0
          have k10 := hT.cell 10 (by decide)
          have k13 := hT.cell 13 (by decide)
          have f10 := hT.frozen 10
          have f13 := hT.frozen 13
          have hne : ∀ (j a : Nat) (x : Value) (W : World), (W.setCell ⟨wc.heap.size, j, none⟩ x).cell? ⟨g, a, none⟩ = W.cell? ⟨g, a, none⟩ := fun j a x W => World.cell?_setCell_other _ _ _ _ (fun e => by injection e with e _ _; omega)
          rcases hrel with ⟨rfl, rfl⟩ | ⟨rfl, rfl⟩ | ⟨rfl, rfl⟩
          · clear hT hbel hne
            go_wp2
            go_roundw
            case rel => exact .inr (.inl ⟨by first | rfl | trivial, by first | rfl | trivial⟩)
            case measure => simp [intOf]
          · have a0 := (hne 10 0 (.int .u8 32) wr).trans hd0
            have a1 := (hne 10 1 (.int .u8 32) wr).trans hd1
            have k13 : (wr.setCell ⟨wc.heap.size, 10, none⟩ (.int .u8 32)).cell? ⟨wc.heap.size, 13, none⟩ = some (.int .u8 13) := (World.cell?_setCell_other _ _ _ _ (fun e => by injection e with _ e _; omega)).trans k13
            have f13 : (wr.setCell ⟨wc.heap.size, 10, none⟩ (.int .u8 32)).frozen? ⟨wc.heap.size, 13, none⟩ = false := by rw [World.frozen?_setCell]; exact f13
            clear hT hbel hne hd0 hd1 hd2 hd3
            go_wp2
            go_roundw
            case rel => exact .inr (.inr ⟨by first | rfl | trivial, by first | rfl | trivial⟩)
            case measure => simp [intOf]
          · have t1 := hT.set (g := fun j => if j = 10 then 32 else j) 10 (by decide) 32 (fun j hj => by
              by_cases e : j = 10
              · rw [if_pos e, if_pos e]
              · rw [if_neg e, if_neg e, if_pos hj])
            have t2 := t1.set (g := spcN) 13 (by decide) 32 (fun j hj => by
              unfold spcN
              by_cases e : j = 13
              · rw [if_pos (.inl e), if_pos e]
              · by_cases e2 : j = 10
                · rw [if_pos (.inr e2), if_neg e, if_pos e2]
                · rw [if_neg (fun x => x.elim e e2), if_neg e, if_neg e2])
            have hb9 := (hbel.setCell (p := ⟨wc.heap.size, 10, none⟩) (Nat.le_refl _) (.int .u8 32)).setCell (p := ⟨wc.heap.size, 13, none⟩) (Nat.le_refl _) (.int .u8 32)
            have hpost : Hid (BuiltN wc (.returned (.iface 138 (.pointer (some ⟨wc.heap.size, 0, none⟩)))) ((wr.setCell ⟨wc.heap.size, 10, none⟩ (.int .u8 32)).setCell ⟨wc.heap.size, 13, none⟩ (.int .u8 32))) := ⟨_, rfl, Nat.le_refl _, t2, hb9⟩
            clear hT hbel hne t1 t2 hb9
            go_wp2
            go_ret
            exact hpost.out
/-- the bytes, the first k of them replaced -/
def mixN (s : ByteArray) (k : Nat) : List UInt8 := (s.data.toList.take k).map spc ++ s.data.toList.drop k
theorem mixN_length (s : ByteArray) (k : Nat) : (mixN s k).length = s.size := by
  unfold mixN
  have : s.data.toList.length = s.size := rfl
  rw [List.length_append, List.length_map, List.length_take, List.length_drop]; omega
theorem mixN_at (s : ByteArray) (k : Nat) (h : k < s.size) (h2 : k < (mixN s k).length) : (mixN s k)[k] = s[k] := by
  have hl : s.data.toList.length = s.size := rfl
  have e : (mixN s k)[k]? = some s[k] := by
    unfold mixN
    rw [List.getElem?_append_right (by rw [List.length_map, List.length_take]; omega), List.length_map, List.length_take, List.getElem?_drop]
    have : k + (k - min k s.data.toList.length) = k := by omega
    rw [this, List.getElem?_eq_getElem (by omega)]
    rfl
  rw [List.getElem?_eq_getElem h2] at e
  exact Option.some.inj e
theorem mixN_step (s : ByteArray) (k : Nat) (h : k < s.size) : (mixN s k).set k (spc s[k]) = mixN s (k + 1) := by
  have hl : s.data.toList.length = s.size := rfl
  unfold mixN
  rw [List.set_append_right _ _ (by rw [List.length_map, List.length_take]; omega)]
  have e : k - ((s.data.toList.take k).map spc).length = 0 := by rw [List.length_map, List.length_take]; omega
  rw [e, List.drop_eq_getElem_cons (by omega), List.set_cons_zero, List.take_succ_eq_append_getElem (by omega), List.map_append]
  simp
  rfl
theorem mixN_same (s : ByteArray) (k : Nat) (h : k < s.size) (hl : spc s[k] = s[k]) : mixN s k = mixN s (k + 1) := by
  rw [← mixN_step s k h, hl]
  have h2 : k < (mixN s k).length := by rw [mixN_length]; exact h
  have := mixN_at s k h h2
  rw [← this]
  exact (List.set_getElem_self h2).symm
theorem mixN_zero (s : ByteArray) : mixN s 0 = s.data.toList := by unfold mixN; simp
theorem mixN_end (s : ByteArray) : mixN s s.size = s.data.toList.map spc := by
  unfold mixN
  have hl : s.data.toList.length = s.size := rfl
  rw [List.take_of_length_le (by omega), List.drop_eq_nil_of_le (by omega), List.append_nil]
end Go.Proofs.YtnclbbgdfaeilaaGreatDoor
namespace Go.Proofs.YtnclbbgdfaeilaaGreatDoor
open Go.RowKit Pk Hd

set_option maxHeartbeats 4000000 in
set_option maxRecDepth 100000 in
theorem brN_any (R : Nat) (s : ByteArray) (w : World) (hT : TabN w R spcN) (hs : s.size ≤ 10000000) :
    Calls Tryz.prog 189 #[.pointer (some ⟨R, 0, none⟩), .string s] w fun e w' => e = .returned (.string (toB (s.data.toList.map spc))) ∧ Below w.heap.size w w' := by
  have hRl := hT.lt
  have hnl := fun (w : World) (a : Option Addr) (n c : Nat) => run_eql_nil_slice (P := Tryz.prog) w 46 5 a n c 0 0 Tryz.underlying46
  have hel := fun (w : World) (a : Option Addr) (n c : Nat) => Lib.run_eql_slice_nil (P := Tryz.prog) w 46 5 a n c 0 0 Tryz.underlying46
  go_enter Tryz.func189, Tryz.ntmps189
  go_wp2
  go_loopw [5, 6, 7] (fun bv iv _ wr => ∃ k : Nat, iv = .int .i64 k ∧ k ≤ s.size ∧ Below w.heap.size w wr ∧ ((bv = .slice none 0 0 ∧ mixN s k = s.data.toList) ∨ (∃ g cp, bv = .slice (some ⟨g, 0, none⟩) s.size cp ∧ w.heap.size ≤ g ∧ rowF wr g 5 (mixN s k)))) (fun _ iv _ _ => s.size - (intOf iv).toNat)
  case atStart => exact ⟨0, by first | rfl | trivial, by omega, Below.refl _ _, .inl ⟨rfl, mixN_zero s⟩⟩
  case round =>
    obtain ⟨k, rfl, hk, hbel, hrel⟩ := hrel
    have hz := hbel.size
    by_cases hlt : k < s.size
    · have hT2 := hT.below hbel hRl
      have hcell := hT2.cell s[k].toNat s[k].toNat_lt
      rw [spcN_spc] at hcell
      have hkb : (s[k].toNat : Int) < 256 := by have := s[k].toNat_lt; omega
      by_cases hsp : spc s[k] = s[k]
      · have q : (((spc s[k]).toNat : Int) != (s[k].toNat : Int)) = false := by rw [hsp]; simp
        have hm := mixN_same s k hlt hsp
        rw [hm] at hrel
        clear hT2 hm hsp
        rcases hrel with ⟨rfl, hrel⟩ | ⟨g, cp, rfl, hg, hrow⟩
        · go_wp2
          go_roundw
          case rel => exact ⟨k + 1, by go_num, by omega, hbel, .inl ⟨rfl, hrel⟩⟩
          case measure => simp [intOf]; omega
        · go_wp2
          go_roundw
          case rel => exact ⟨k + 1, by go_num, by omega, hbel, .inr ⟨g, cp, rfl, hg, hrow⟩⟩
          case measure => simp [intOf]; omega
      · have q : (((spc s[k]).toNat : Int) != (s[k].toNat : Int)) = true := by
          rw [bne_iff_ne]; intro e; exact hsp (UInt8.toNat_inj.1 (by exact_mod_cast e))
        have hx1 : (0 : Int) ≤ ((spc s[k]).toNat : Int) := by omega
        have hx2 : ((spc s[k]).toNat : Int) < 256 := by have := (spc s[k]).toNat_lt; omega
        have hb8 : b8 ((spc s[k]).toNat : Int) = spc s[k] := b8_of _
        have hstp := mixN_step s k hlt
        rcases hrel with ⟨rfl, hrel⟩ | ⟨g, cp, rfl, hg, hrow⟩
        · obtain ⟨cp, w1, hcv, hrow, hb1, hz1⟩ := conv_row (P := Tryz.prog) wr 9 46 5 s Tryz.underlying9 Tryz.underlying46 Tryz.underlying5
          rw [← hrel] at hrow
          have hf := rowF_frozen hrow k (by rw [mixN_length]; exact hlt)
          have hck := rowF_cell hrow k (by rw [mixN_length]; exact hlt)
          have hT3 := (hT2.below hb1 hT2.lt).cell s[k].toNat s[k].toNat_lt
          rw [spcN_spc] at hT3
          have hrow2 := rowF_stored hrow k _ hx1 hx2
          rw [hb8, hstp] at hrow2
          have hbel2 := (hbel.trans (hb1.mono hz)).setCell (p := ⟨wr.heap.size, k, none⟩) hz (.int .u8 (spc s[k]).toNat)
          clear hrow hT2 hstp hsp
          go_wp2
          go_roundw
          case rel => exact ⟨k + 1, by go_num, by omega, hbel2, .inr ⟨_, cp, rfl, hz, hrow2⟩⟩
          case measure => simp [intOf]; omega
        · have hf := rowF_frozen hrow k (by rw [mixN_length]; exact hlt)
          have hck := rowF_cell hrow k (by rw [mixN_length]; exact hlt)
          have hrow2 := rowF_stored hrow k _ hx1 hx2
          rw [hb8, hstp] at hrow2
          have hbel2 := hbel.setCell (p := ⟨g, k, none⟩) hg (.int .u8 (spc s[k]).toNat)
          clear hrow hT2 hstp hsp
          go_wp2
          go_roundw
          case rel => exact ⟨k + 1, by go_num, by omega, hbel2, .inr ⟨g, cp, rfl, hg, hrow2⟩⟩
          case measure => simp [intOf]; omega
    · obtain rfl : k = s.size := by omega
      rw [mixN_end] at hrel
      rcases hrel with ⟨rfl, hrel⟩ | ⟨g, cp, rfl, hg, hrow⟩
      · have hpost : Hid (toB (s.data.toList.map spc) = s) := by show _ = _; rw [hrel, toB_back]
        clear hrel
        go_wp2
        go_ret
        exact ⟨by rw [hpost.out]; rfl, hbel⟩
      · have hcv := run_string_row (P := Tryz.prog) (ts := 9) (n := s.size) (cap := cp) bslH Tryz.underlying9 hrow (by rw [List.length_map]; rfl)
        clear hrow
        go_wp2
        go_ret
        exact ⟨rfl, hbel⟩
theorem row_setv {w : World} {b j : Nat} {cs : Array Value} {t : TypeId} {fz : Nat × Nat} {x : Value} (h : w.heap[b]? = some (Obj.cells cs t fz)) : (w.setCell ⟨b, j, none⟩ x).heap[b]? = some (Obj.cells (cs.setIfInBounds j x) t fz) := by
  simp [World.setCell, Array.getElem?_modify, h]
theorem TabN.other {w : World} {R r j : Nat} {f : Nat → Nat} {cs : Array Value} {fz : Nat × Nat} {x : Value} (h : TabN w R f) (hr : w.heap[r]? = some (Obj.cells cs 88 fz)) : TabN (w.setCell ⟨r, j, none⟩ x) R f := by
  have h0 := h
  obtain ⟨cs', hrow, hsz⟩ := h0
  exact h.block (Below.heap_setCell _ _ _ _ (other_type hrow hr (by decide)))
set_option maxRecDepth 100000 in
theorem onceN_build (r g cp : Nat) (w : World)
    (hrow : ∃ x0 x1 x2 x3, w.heap[r]? = some (.cells #[x0, x1, x2, x3, .slice (some ⟨g, 0, none⟩) 4 cp] 88 (0, 0))) (hc : ∀ j (h : j < fourN.length), w.cell? ⟨g, j, none⟩ = some (.string fourN[j])) :
    Calls Tryz.prog 54 #[.pointer (some ⟨r, 0, none⟩)] w fun e w' => e = .returned (.tuple #[]) ∧ ∃ R w2, TabN w2 R spcN ∧ w.heap.size ≤ R ∧ Below w.heap.size w w2 ∧ w' = (w2.setCell ⟨r, 3, none⟩ (.iface 138 (.pointer (some ⟨R, 0, none⟩)))).setCell ⟨r, 4, none⟩ (.slice none 0 0) := by
  obtain ⟨x0, x1, x2, x3, hrow⟩ := hrow
  have hr := lt_of_block hrow
  have hB := buildN_any r g cp w ((Lib.cell_of_heap hrow 4).trans rfl) (hc 0 (by decide)) (hc 1 (by decide)) (hc 2 (by decide)) (hc 3 (by decide))
  have HB := Lib.hid hB
  have HROW := Lib.hid hrow
  clear hB hc hrow
  go_enter Tryz.func54, Tryz.ntmps54
  go_upto_region 1 with (go_at_call 90; (with_reducible refine HB.out.mono ?_); rintro e w2 ⟨R, rfl, hR, hT, hb2⟩; have c3 := (Lib.cell_of_heap ((hb2.block r hr).trans HROW.out) 3).trans rfl; have f3 := frozen_of (j := 3) ((hb2.block r hr).trans HROW.out))
  have hrow2 := (hb2.block r hr).trans HROW.out
  obtain ⟨cs3, hrow3, -⟩ := row_set (j := 3) (x := .iface 138 (.pointer (some ⟨R, 0, none⟩))) hrow2
  have f4 := frozen_of (j := 4) hrow3
  have c4 := (World.cell?_setCell_other w2 ⟨r, 3, none⟩ ⟨r, 4, none⟩ (.iface 138 (.pointer (some ⟨R, 0, none⟩))) (by simp)).trans ((Lib.cell_of_heap hrow2 4).trans rfl)
  have HT := Lib.hid hT
  clear hrow2 hrow3 c3 f3 hT
  go_wp2
  go_end0
  exact ⟨rfl, R, w2, HT.out, hR, hb2, rfl⟩
def RepDoneN (R r : Nat) (w w' : World) : Prop := TabN w' R spcN ∧ w'.cell? ⟨r, 3, none⟩ = some (.iface 138 (.pointer (some ⟨R, 0, none⟩))) ∧ Below (min r w.heap.size) w w'
theorem onceN_any (r g cp : Nat) (w : World)
    (hrow : w.heap[r]? = some (.cells #[.int .u32 0, .int .i32 0, .int .u32 0, .nilIface, .slice (some ⟨g, 0, none⟩) 4 cp] 88 (0, 0))) (hc : ∀ j (h : j < fourN.length), w.cell? ⟨g, j, none⟩ = some (.string fourN[j])) (hgr : g ≠ r) :
    Calls Tryz.prog 53 #[.pointer (some ⟨r, 0, none⟩), .func (.func 54) #[.pointer (some ⟨r, 0, none⟩)] #[]] w fun e w' => e = .returned (.tuple #[]) ∧ ∃ R, RepDoneN R r w w' := by
  have hr := lt_of_block hrow
  have hO : OnceAt w r 0 0 := ⟨(Lib.cell_of_heap hrow 0).trans rfl, (Lib.cell_of_heap hrow 1).trans rfl, frozen_of hrow, frozen_of hrow⟩
  have hrow1 := row_setv (j := 1) (x := .int .i32 1) hrow
  have hz1 : (w.setCell ⟨r, 1, none⟩ (.int .i32 1)).heap.size = w.heap.size := by simp [World.setCell]
  have hB := onceN_build r g cp (w.setCell ⟨r, 1, none⟩ (.int .i32 1)) ⟨_, _, _, _, hrow1⟩ (fun j h => by
    rw [World.cell?_setCell_other _ _ _ _ (fun e => hgr (congrArg Addr.block e).symm)]
    exact hc j h)
  have hD := do_first r (fun w2 => ∃ R w3, TabN w3 R spcN ∧ Below w.heap.size (w.setCell ⟨r, 1, none⟩ (.int .i32 1)) w3 ∧ w2 = (w3.setCell ⟨r, 3, none⟩ (.iface 138 (.pointer (some ⟨R, 0, none⟩)))).setCell ⟨r, 4, none⟩ (.slice none 0 0)) w hO (hB.mono fun e w2 ⟨he, R, w3, hT, hR, hb, hw⟩ => by
    rw [hz1] at hb hR
    have h3 := (hb.block r hr).trans hrow1
    have h4 := row_setv (j := 3) (x := .iface 138 (.pointer (some ⟨R, 0, none⟩))) h3
    have h5 := row_setv (j := 4) (x := .slice none 0 0) h4
    subst hw
    exact ⟨he, ⟨(Lib.cell_of_heap h5 0).trans rfl, (Lib.cell_of_heap h5 1).trans rfl, frozen_of h5, frozen_of h5⟩, R, w3, hT, hb, rfl⟩)
  refine hD.mono ?_
  rintro e w' ⟨rfl, w2, ⟨R, w3, hT, hb, rfl⟩, rfl⟩
  refine ⟨rfl, R, ?_⟩
  have h3 := (hb.block r hr).trans hrow1
  have h4 := row_setv (j := 3) (x := .iface 138 (.pointer (some ⟨R, 0, none⟩))) h3
  have h5 := row_setv (j := 4) (x := .slice none 0 0) h4
  have t4 := TabN.other (j := 3) (x := .iface 138 (.pointer (some ⟨R, 0, none⟩))) hT h3
  have t5 := TabN.other (j := 4) (x := .slice none 0 0) t4 h4
  have c3 : ((w3.setCell ⟨r, 3, none⟩ (.iface 138 (.pointer (some ⟨R, 0, none⟩)))).setCell ⟨r, 4, none⟩ (.slice none 0 0)).cell? ⟨r, 3, none⟩ = some (.iface 138 (.pointer (some ⟨R, 0, none⟩))) := (Lib.cell_of_heap h5 3).trans rfl
  have b5 : Below (min r w.heap.size) w ((w3.setCell ⟨r, 3, none⟩ (.iface 138 (.pointer (some ⟨R, 0, none⟩)))).setCell ⟨r, 4, none⟩ (.slice none 0 0)) :=
    ((((Below.refl _ w).setCell (p := ⟨r, 1, none⟩) (Nat.min_le_left _ _) _).trans (hb.mono (Nat.min_le_right _ _))).setCell (p := ⟨r, 3, none⟩) (Nat.min_le_left _ _) _).setCell (p := ⟨r, 4, none⟩) (Nat.min_le_left _ _) _
  generalize ((w3.setCell ⟨r, 3, none⟩ (.iface 138 (.pointer (some ⟨R, 0, none⟩)))).setCell ⟨r, 4, none⟩ (.slice none 0 0)) = w4 at *
  have t6 : TabN w4.drew R spcN := t5.block rfl
  have h6 : w4.drew.heap[r]? = _ := h5
  have t7 := TabN.other (j := 0) (x := .int .u32 1) t6 h6
  have h7 := row_setv (j := 0) (x := .int .u32 1) h6
  have t8 := TabN.other (j := 1) (x := .int .i32 0) t7 h7
  refine ⟨t8, ?_, ((b5.drew.setCell (p := ⟨r, 0, none⟩) (Nat.min_le_left _ _) _).setCell (p := ⟨r, 1, none⟩) (Nat.min_le_left _ _) _)⟩
  rw [World.cell?_setCell_other _ _ _ _ (fun e => by cases e), World.cell?_setCell_other _ _ _ _ (fun e => by cases e)]
  exact c3
theorem methodN_rep (k : Nat) (a : Addr) (w : World) : (method (k + 1) 138 (.pointer (some a)) "Replace").run Tryz.prog w = .ok (189, .pointer (some a)) w := by kernel_rfl
set_option maxRecDepth 100000 in
set_option maxHeartbeats 1600000 in
theorem replaceN_any (r B : Nat) (v : Value) (s : ByteArray) (w : World) (hs : s.size ≤ 10000000)
    (hrow : w.heap[r]? = some (.cells #[.int .u32 0, .int .i32 0, .int .u32 0, .nilIface, v] 88 (0, 0))) (hown : ownsS w B 9 v fourN) :
    Calls Tryz.prog 29 #[.pointer (some ⟨r, 0, none⟩), .string s] w fun e w' => e = .returned (.string (toB (s.data.toList.map spc))) ∧ Below r w w' := by
  rcases hown.form with ⟨rfl, he⟩ | ⟨g, cp, rfl, hBg, hlc, hcm, hcells⟩
  · cases he
  · have hgr : g ≠ r := by
      rcases hown.2 with ⟨hx, _⟩ | ⟨g', cap', cur', hx, _, hg', _⟩
      · cases hx
      · injection hx with hx _ _
        injection hx with hx
        injection hx with hx
        subst hx
        exact other_type hg' hrow (by decide)
    have hrow : w.heap[r]? = some (.cells #[.int .u32 0, .int .i32 0, .int .u32 0, .nilIface, .slice (some ⟨g, 0, none⟩) 4 cp] 88 (0, 0)) := hrow
    have hr := lt_of_block hrow
    have hO := onceN_any r g cp w hrow hcells hgr
    have HO := Lib.hid hO
    have hb2 := fun R (w' : World) (hT : TabN w' R spcN) => brN_any R s w' hT hs
    have HB2 := Lib.hid hb2
    have hm := methodN_rep
    clear hO hb2 hown hcells hrow
    go_enter Tryz.func29, Tryz.ntmps29
    go_wp2_with (first
      | (go_at_call 53; (with_reducible refine HO.out.mono ?_); rintro e w1 ⟨rfl, R, hT, hc3, hb1⟩)
      | (go_at_call 189; (with_reducible refine (HB2.out R _ hT).mono ?_); rintro e w2 ⟨rfl, hb2⟩))
    go_ret
    rw [Nat.min_eq_left (by omega)] at hb1
    exact ⟨rfl, hb1.trans (hb2.mono (by have := hb1.size; omega))⟩
end Go.Proofs.YtnclbbgdfaeilaaGreatDoor
