/- Walks: strings.Replacer, where every string is one byte: build, byteReplacer.Replace, Replace: what header.Put asks of it. -/
import Derived.Test.YthchklbnkojkgaaGreatDoorRepX
import Derived.Test.YthchklbnkojkgaaGreatDoorHd3
import Derived.Outline
import Derived.RegionCalls
namespace Go.Proofs.YthchklbnkojkgaaGreatDoor
open Go.RowKit Pk Hd

/-- the table of a byteReplacer -/
def TabN (w : World) (R : Nat) (f : Nat → Nat) : Prop := ∃ cs, w.heap[R]? = some (.cells cs 110 (0, 0)) ∧ cs.size = 256 ∧ ∀ j, j < 256 → cs[j]? = some (.int .u8 (f j : Nat))
theorem TabN.cell {w : World} {R : Nat} {f : Nat → Nat} (h : TabN w R f) (j : Nat) (hj : j < 256) : w.cell? ⟨R, j, none⟩ = some (.int .u8 (f j : Nat)) := by
  obtain ⟨cs, h1, h2, h3⟩ := h
  exact (Lib.cell_of_heap h1 j).trans (h3 j hj)
theorem TabN.frozen {w : World} {R : Nat} {f : Nat → Nat} (h : TabN w R f) (j : Nat) : w.frozen? ⟨R, j, none⟩ = false := by
  obtain ⟨cs, h1, h2, h3⟩ := h
  simp [World.frozen?, h1]
theorem TabN.lt {w : World} {R : Nat} {f : Nat → Nat} (h : TabN w R f) : R < w.heap.size := by
  obtain ⟨cs, h1, h2, h3⟩ := h
  exact lt_of_block h1
theorem TabN.set {w : World} {R : Nat} {f g : Nat → Nat} (h : TabN w R f) (j : Nat) (hj : j < 256) (x : Nat) (hg : ∀ i, i < 256 → g i = if i = j then x else f i) : TabN (w.setCell ⟨R, j, none⟩ (.int .u8 (x : Nat))) R g := by
  obtain ⟨cs, h1, h2, h3⟩ := h
  refine ⟨cs.setIfInBounds j (.int .u8 (x : Nat)), by simp [World.setCell, Array.getElem?_modify, h1], by simpa using h2, fun i hi => ?_⟩
  rw [Array.getElem?_setIfInBounds, hg i hi]
  by_cases e : j = i
  · subst e; rw [if_pos rfl, if_pos (by omega), if_pos rfl]
  · rw [if_neg e, if_neg (fun x => e x.symm)]; exact h3 i hi
theorem TabN.block {w w' : World} {R : Nat} {f : Nat → Nat} (h : TabN w R f) (hb : w'.heap[R]? = w.heap[R]?) : TabN w' R f := by
  obtain ⟨cs, h1, h2, h3⟩ := h
  exact ⟨cs, hb.trans h1, h2, h3⟩
theorem TabN.below {w w' : World} {R B : Nat} {f : Nat → Nat} (h : TabN w R f) (hb : Below B w w') (hR : R < B) : TabN w' R f := h.block (hb.block R hR)
def isZ0 : Option Value → Bool
  | some (.int .u8 0) => true
  | _ => false
theorem zN_size : Tryz.zeroCells110.size = 256 := by kernel_rfl
theorem zN_at (j : Nat) (h : j < 256) : Tryz.zeroCells110[j]? = some (.int .u8 0) := by
  have hk : ∀ j : Nat, j < 256 → isZ0 (Tryz.zeroCells110[j]?) = true := by decide +kernel
  have h2 := hk j h
  generalize Tryz.zeroCells110[j]? = o at h2
  unfold isZ0 at h2
  split at h2
  · rfl
  · cases h2
set_option maxRecDepth 100000 in
theorem zN_store (W : World) : Sem.run Tryz.prog (storeCells ⟨W.heap.size, 0, none⟩ Tryz.zeroCells110.toList) (W.alloc (.cells Tryz.zeroCells110 110)) = .ok () (W.alloc (.cells Tryz.zeroCells110 110)) :=
  run_storeCells_new (P := Tryz.prog) W 110 Tryz.zeroCells110 Tryz.zeroCells110 (by rw [zN_size]; kernel_rfl) rfl (by
    rw [Array.all_eq_true]
    intro j hj
    rw [zN_size] at hj
    have hg : ∀ x, Tryz.zeroCells110[j]? = some x → ∀ h, Tryz.zeroCells110[j]'h = x := fun x hx h => by
      rw [Array.getElem?_eq_getElem h] at hx
      exact Option.some.inj hx
    rw [hg _ (zN_at j hj) _]; rfl)
theorem TabN.zero (w : World) : TabN (w.alloc (.cells Tryz.zeroCells110 110)) w.heap.size (fun j => if j < 0 then j else 0) :=
  ⟨_, heap_alloc_new w _, zN_size, fun j hj => by rw [zN_at j hj]; rfl⟩
def spcN (j : Nat) : Nat := if j = 13 ∨ j = 10 then 32 else j
theorem spcN_spc (c : UInt8) : spcN c.toNat = (spc c).toNat := by
  unfold spcN spc
  by_cases h : c = 13 ∨ c = 10
  · rw [if_pos h, if_pos (by rcases h with rfl | rfl; exact .inl rfl; exact .inr rfl)]; rfl
  · rw [if_neg h, if_neg]
    rintro (e | e)
    · exact h (.inl (UInt8.toNat_inj.1 e))
    · exact h (.inr (UInt8.toNat_inj.1 e))
def BuiltN (w : World) (e : Ending) (w' : World) : Prop := ∃ R, e = .returned (.iface 111 (.pointer (some ⟨R, 0, none⟩))) ∧ w.heap.size ≤ R ∧ TabN w' R spcN ∧ Below w.heap.size w w'
def fourN : List ByteArray := [⟨#[13]⟩, ⟨#[32]⟩, ⟨#[10]⟩, ⟨#[32]⟩]
set_option maxHeartbeats 4000000 in
set_option maxRecDepth 100000 in
theorem buildN_any (r g cp : Nat) (w : World)
    (hv : w.cell? ⟨r, 4, none⟩ = some (.slice (some ⟨g, 0, none⟩) 4 cp)) (hc0 : w.cell? ⟨g, 0, none⟩ = some (.string ⟨#[13]⟩)) (hc1 : w.cell? ⟨g, 1, none⟩ = some (.string ⟨#[32]⟩)) (hc2 : w.cell? ⟨g, 2, none⟩ = some (.string ⟨#[10]⟩)) (hc3 : w.cell? ⟨g, 3, none⟩ = some (.string ⟨#[32]⟩)) :
    Calls Tryz.prog 66 #[.pointer (some ⟨r, 0, none⟩)] w (BuiltN w) := by
  go_enter Tryz.func66, Tryz.ntmps66
  go_upto_block 0 with fail
  go_cut [4] (fun av wx => av = .bool true ∧ wx = w)
  case first =>
    go_wp2_with fail
    go_loopw [4, 5] (fun av iv wr => (iv = .int .i64 0 ∨ iv = .int .i64 2 ∨ iv = .int .i64 4) ∧ av = .bool true ∧ wr = w) (fun _ iv _ => 4 - (intOf iv).toNat)
    case atStart => exact ⟨.inl (by first | rfl | trivial), by first | rfl | trivial, rfl⟩
    case round =>
      obtain ⟨hi, rfl, rfl⟩ := hrel
      rcases hi with rfl | rfl | rfl
      · go_wp2
        go_roundw
        case rel => exact ⟨.inr (.inl (by first | rfl | go_num)), by first | rfl | trivial, by first | rfl | trivial⟩
        case measure => simp [intOf]
      · go_wp2
        go_roundw
        case rel => exact ⟨.inr (.inr (by first | rfl | go_num)), by first | rfl | trivial, by first | rfl | trivial⟩
        case measure => simp [intOf]
      · go_wp2
        go_meet
        exact ⟨rfl, rfl⟩
  case rest =>
    obtain ⟨rfl, rfl⟩ := hcut
    have hzz := zN_store
    have hT0 := TabN.zero wc
    have hb0 : Below wc.heap.size wc (wc.alloc (.cells Tryz.zeroCells110 110)) := (Below.refl _ _).alloc (Nat.le_refl _) _
    go_upto_block 14 with fail
    clear hzz
    go_loopw [61] (fun iv wr => ∃ i : Nat, iv = .int .i64 i ∧ i ≤ 256 ∧ TabN wr wc.heap.size (fun j => if j < i then j else 0) ∧ Below wc.heap.size wc wr) (fun iv _ => 256 - (intOf iv).toNat)
    case atStart => exact ⟨0, by first | rfl | trivial, by omega, hT0, hb0⟩
    case round =>
      clear hT0 hb0
      obtain ⟨i, rfl, hi, hT, hbel⟩ := hrel
      by_cases hlt : i < 256
      · have hc := hT.cell i hlt
        have hf := hT.frozen i
        have hT2 := hT.set (g := fun j => if j < i + 1 then j else 0) i hlt i (fun j _ => by
          by_cases e : j = i
          · rw [if_pos e, if_pos (by omega)]; exact e
          · rw [if_neg e]
            by_cases h2 : j < i
            · rw [if_pos h2, if_pos (by omega)]
            · rw [if_neg h2, if_neg (by omega)])
        have hbel2 := hbel.setCell (p := ⟨wc.heap.size, i, none⟩) (Nat.le_refl _) (.int .u8 (i : Nat))
        have hw8 : IntKind.u8.wrap (i : Int) = (i : Int) := w8 (by omega) (by omega)
        clear hT
        go_wp2
        go_roundw
        case rel => exact ⟨i + 1, by go_num, by omega, hT2, hbel2⟩
        case measure => simp [intOf]; omega
      · obtain rfl : i = 256 := by omega
        have hd0 := cell_later hbel hc0
        have hd1 := cell_later hbel hc1
        have hd2 := cell_later hbel hc2
        have hd3 := cell_later hbel hc3
        go_wp2
        go_loopw [8] (fun iv w2 => (iv = .int .i64 2 ∧ w2 = wr) ∨ (iv = .int .i64 0 ∧ w2 = wr.setCell ⟨wc.heap.size, 10, none⟩ (.int .u8 32)) ∨ (iv = .int .i64 (-2) ∧ w2 = (wr.setCell ⟨wc.heap.size, 10, none⟩ (.int .u8 32)).setCell ⟨wc.heap.size, 13, none⟩ (.int .u8 32))) (fun iv _ => (intOf iv + 2).toNat)
        case atStart => exact .inl ⟨by first | rfl | trivial, rfl⟩
        case round =>
          have e10 : ((⟨#[10]⟩ : ByteArray)[0]'(by decide)).toNat = 10 := rfl
          have e13 : ((⟨#[13]⟩ : ByteArray)[0]'(by decide)).toNat = 13 := rfl
          have e32 : ((⟨#[32]⟩ : ByteArray)[0]'(by decide)).toNat = 32 := rfl
          have hg0 : g < wc.heap.size := World.block_lt_of_cell? _ _ hc0
          have k10 := hT.cell 10 (by decide)
          have k13 := hT.cell 13 (by decide)
          have f10 := hT.frozen 10
          have f13 := hT.frozen 13
          have hne : ∀ (j a : Nat) (x : Value) (W : World), (W.setCell ⟨wc.heap.size, j, none⟩ x).cell? ⟨g, a, none⟩ = W.cell? ⟨g, a, none⟩ := fun j a x W => World.cell?_setCell_other _ _ _ _ (fun e => by injection e with e _ _; omega)
          rcases hrel with ⟨rfl, rfl⟩ | ⟨rfl, rfl⟩ | ⟨rfl, rfl⟩
          · clear hT hbel hne
            go_wp2
            go_roundw
            case rel => exact .inr (.inl ⟨by first | rfl | trivial, by first | rfl | trivial⟩)
            case measure => simp [intOf]
          · have a0 := (hne 10 0 (.int .u8 32) wr).trans hd0
            have a1 := (hne 10 1 (.int .u8 32) wr).trans hd1
            have k13 : (wr.setCell ⟨wc.heap.size, 10, none⟩ (.int .u8 32)).cell? ⟨wc.heap.size, 13, none⟩ = some (.int .u8 13) := (World.cell?_setCell_other _ _ _ _ (fun e => by injection e with _ e _; omega)).trans k13
            have f13 : (wr.setCell ⟨wc.heap.size, 10, none⟩ (.int .u8 32)).frozen? ⟨wc.heap.size, 13, none⟩ = false := by rw [World.frozen?_setCell]; exact f13
            clear hT hbel hne hd0 hd1 hd2 hd3
            go_wp2
            go_roundw
            case rel => exact .inr (.inr ⟨by first | rfl | trivial, by first | rfl | trivial⟩)
            case measure => simp [intOf]
          · have t1 := hT.set (g := fun j => if j = 10 then 32 else j) 10 (by decide) 32 (fun j hj => by
              by_cases e : j = 10
              · rw [if_pos e, if_pos e]
              · rw [if_neg e, if_neg e, if_pos hj])
            have t2 := t1.set (g := spcN) 13 (by decide) 32 (fun j hj => by
              unfold spcN
              by_cases e : j = 13
              · rw [if_pos (.inl e), if_pos e]
              · by_cases e2 : j = 10
                · rw [if_pos (.inr e2), if_neg e, if_pos e2]
                · rw [if_neg (fun x => x.elim e e2), if_neg e, if_neg e2])
            have hb9 := (hbel.setCell (p := ⟨wc.heap.size, 10, none⟩) (Nat.le_refl _) (.int .u8 32)).setCell (p := ⟨wc.heap.size, 13, none⟩) (Nat.le_refl _) (.int .u8 32)
            have hpost : Hid (BuiltN wc (.returned (.iface 111 (.pointer (some ⟨wc.heap.size, 0, none⟩)))) ((wr.setCell ⟨wc.heap.size, 10, none⟩ (.int .u8 32)).setCell ⟨wc.heap.size, 13, none⟩ (.int .u8 32))) := ⟨_, rfl, Nat.le_refl _, t2, hb9⟩
            clear hT hbel hne t1 t2 hb9
            go_wp2
            go_ret
            exact hpost.out
/-- the bytes, the first k of them replaced -/
def mixN (s : ByteArray) (k : Nat) : List UInt8 := (s.data.toList.take k).map spc ++ s.data.toList.drop k
theorem mixN_length (s : ByteArray) (k : Nat) : (mixN s k).length = s.size := by
  unfold mixN
  have : s.data.toList.length = s.size := rfl
  rw [List.length_append, List.length_map, List.length_take, List.length_drop]; omega
theorem mixN_at (s : ByteArray) (k : Nat) (h : k < s.size) (h2 : k < (mixN s k).length) : (mixN s k)[k] = s[k] := by
  have hl : s.data.toList.length = s.size := rfl
  have e : (mixN s k)[k]? = some s[k] := by
    unfold mixN
    rw [List.getElem?_append_right (by rw [List.length_map, List.length_take]; omega), List.length_map, List.length_take, List.getElem?_drop]
    have : k + (k - min k s.data.toList.length) = k := by omega
    rw [this, List.getElem?_eq_getElem (by omega)]
    rfl
  rw [List.getElem?_eq_getElem h2] at e
  exact Option.some.inj e
theorem mixN_step (s : ByteArray) (k : Nat) (h : k < s.size) : (mixN s k).set k (spc s[k]) = mixN s (k + 1) := by
  have hl : s.data.toList.length = s.size := rfl
  unfold mixN
  rw [List.set_append_right _ _ (by rw [List.length_map, List.length_take]; omega)]
  have e : k - ((s.data.toList.take k).map spc).length = 0 := by rw [List.length_map, List.length_take]; omega
  rw [e, List.drop_eq_getElem_cons (by omega), List.set_cons_zero, List.take_succ_eq_append_getElem (by omega), List.map_append]
  simp
  rfl
theorem mixN_same (s : ByteArray) (k : Nat) (h : k < s.size) (hl : spc s[k] = s[k]) : mixN s k = mixN s (k + 1) := by
  rw [← mixN_step s k h, hl]
  have h2 : k < (mixN s k).length := by rw [mixN_length]; exact h
  have := mixN_at s k h h2
  rw [← this]
  exact (List.set_getElem_self h2).symm
theorem mixN_zero (s : ByteArray) : mixN s 0 = s.data.toList := by unfold mixN; simp
theorem mixN_end (s : ByteArray) : mixN s s.size = s.data.toList.map spc := by
  unfold mixN
  have hl : s.data.toList.length = s.size := rfl
  rw [List.take_of_length_le (by omega), List.drop_eq_nil_of_le (by omega), List.append_nil]
end Go.Proofs.YthchklbnkojkgaaGreatDoor
