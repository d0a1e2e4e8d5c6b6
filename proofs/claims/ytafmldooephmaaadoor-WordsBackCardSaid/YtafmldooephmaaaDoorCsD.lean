/- Walks: charset: ascii, latin, windows, bytewise, readers, small, Decode. Printed by genCsD.py. -/
import Derived.Test.YtafmldooephmaaaDoorCha2
import Derived.Test.YtafmldooephmaaaDoorCsP
import Derived.Test.YtafmldooephmaaaDoorKitS
import Derived.Test.YtafmldooephmaaaDoorKitM
import Derived.Test.YtafmldooephmaaaDoorBldR
import Derived.Lib.ConvBytes
import Derived.Lib.AtoiErrMem
import Derived.Deep.DeepCutAuto
import Derived.Deep.CutBlock
namespace Go.Proofs.YtafmldooephmaaaDoor
open Go.RowKit Pk U8 Cs

set_option maxRecDepth 100000 in
theorem asciiP (c : UInt8) (w : World) : Calls Tryd.prog 84 #[.int .u8 c.toNat] w fun e w' => e = .returned (.int .i64 (asc c)) ∧ w = w' := by
  have hc := c.toNat_lt
  unfold asc
  by_cases h : c.toNat < 128
  · rw [if_pos h]
    go_enter Tryd.func84, Tryd.ntmps84
    go_wp2
    go_ret
    exact ⟨rfl, rfl⟩
  · rw [if_neg h]
    go_enter Tryd.func84, Tryd.ntmps84
    go_wp2
    go_ret
    exact ⟨rfl, rfl⟩
theorem latinP (c : UInt8) (w : World) : Calls Tryd.prog 85 #[.int .u8 c.toNat] w fun e w' => e = .returned (.int .i64 (lat c)) ∧ w = w' := by
  have hc := c.toNat_lt
  go_enter Tryd.func85, Tryd.ntmps85
  go_wp2
  go_ret
  exact ⟨rfl, rfl⟩
theorem ix_win (w : World) : ∀ k : Nat, k < 32 → (Instr.index 90 (.agg #[.int .i64 8364, .int .i64 129, .int .i64 8218, .int .i64 402, .int .i64 8222, .int .i64 8230, .int .i64 8224, .int .i64 8225, .int .i64 710, .int .i64 8240, .int .i64 352, .int .i64 8249, .int .i64 338, .int .i64 141, .int .i64 381, .int .i64 143, .int .i64 144, .int .i64 8216, .int .i64 8217, .int .i64 8220, .int .i64 8221, .int .i64 8226, .int .i64 8211, .int .i64 8212, .int .i64 732, .int .i64 8482, .int .i64 353, .int .i64 8250, .int .i64 339, .int .i64 157, .int .i64 382, .int .i64 376]) (.int .u8 k)).run Tryd.prog w = .ok (.int .i64 (winTab.getD k 0 : Nat)) w := by
  intro k hk
  rcases (show k = 0 ∨ k = 1 ∨ k = 2 ∨ k = 3 ∨ k = 4 ∨ k = 5 ∨ k = 6 ∨ k = 7 ∨ k = 8 ∨ k = 9 ∨ k = 10 ∨ k = 11 ∨ k = 12 ∨ k = 13 ∨ k = 14 ∨ k = 15 ∨ k = 16 ∨ k = 17 ∨ k = 18 ∨ k = 19 ∨ k = 20 ∨ k = 21 ∨ k = 22 ∨ k = 23 ∨ k = 24 ∨ k = 25 ∨ k = 26 ∨ k = 27 ∨ k = 28 ∨ k = 29 ∨ k = 30 ∨ k = 31 by omega) with rfl | rfl | rfl | rfl | rfl | rfl | rfl | rfl | rfl | rfl | rfl | rfl | rfl | rfl | rfl | rfl | rfl | rfl | rfl | rfl | rfl | rfl | rfl | rfl | rfl | rfl | rfl | rfl | rfl | rfl | rfl | rfl
  all_goals kernel_rfl
set_option maxHeartbeats 4000000 in
set_option maxRecDepth 100000 in
theorem windowsP (c : UInt8) (w : World) : Calls Tryd.prog 68 #[.int .u8 c.toNat] w fun e w' => e = .returned (.int .i64 (win c)) ∧ w = w' := by
  have hc := c.toNat_lt
  unfold win
  by_cases h : c.toNat < 128
  · rw [if_pos (.inl h)]
    go_enter Tryd.func68, Tryd.ntmps68
    go_wp2
    go_ret
    exact ⟨rfl, rfl⟩
  · by_cases h2 : 160 ≤ c.toNat
    · rw [if_pos (.inr h2)]
      go_enter Tryd.func68, Tryd.ntmps68
      go_wp2
      go_ret
      exact ⟨rfl, rfl⟩
    · rw [if_neg (by omega)]
      have hix := ix_win w (c.toNat - 128) (by omega)
      have e : ((c.toNat - 128 : Nat) : Int) = (c.toNat : Int) - 128 := by omega
      rw [e] at hix
      have h3 : ¬ (160 : Int) ≤ c.toNat := by omega
      clear e
      go_enter Tryd.func68, Tryd.ntmps68
      go_wp2
      go_ret
      exact ⟨rfl, rfl⟩
theorem map_step {f : UInt8 → Nat} {s : ByteArray} {k : Nat} {l : List Int} (h : Hid (∀ q (hq : q < s.size), q < k → l.getD q 0 = (f s[q] : Int))) (hk : k < s.size) (hl : l.length = s.size) : Hid (∀ q (hq : q < s.size), q < k + 1 → (l.set k (f s[k] : Int)).getD q 0 = (f s[q] : Int)) := by
  intro q hq hlt
  by_cases e : q = k
  · subst e
    rw [List.getD_eq_getElem?_getD, List.getElem?_set_self (by omega)]; rfl
  · rw [List.getD_eq_getElem?_getD, List.getElem?_set_ne (by omega), ← List.getD_eq_getElem?_getD]
    exact h.out q hq (by omega)
theorem map_end {f : UInt8 → Nat} {s : ByteArray} {l : List Int} (h : Hid (∀ q (hq : q < s.size), q < s.size → l.getD q 0 = (f s[q] : Int))) (hl : l.length = s.size) : l = s.data.toList.map fun c => (f c : Int) := by
  apply List.ext_getElem
  · rw [hl, List.length_map]; rfl
  · intro q h1 h2
    have := h.out q (by omega) (by omega)
    rw [List.getD_eq_getElem?_getD, List.getElem?_eq_getElem h1] at this
    rw [List.getElem_map]
    exact this
theorem encsZ_map (f : UInt8 → Nat) (l : List UInt8) : encsZ (l.map fun c => (f c : Int)) = decB f l := by
  unfold encsZ decB
  rw [List.flatMap_map]
set_option maxHeartbeats 2000000 in
set_option maxRecDepth 100000 in
theorem byteA (s : ByteArray) (p : Addr) (w : World) (hp : w.cell? p = some (.func (.func 84) #[] #[])) (hs : s.size ≤ 3000000) : Calls Tryd.prog 86 #[.string s, .pointer (some p)] w fun e w' => e = .returned (.string ⟨(decB asc s.data.toList).toArray⟩) ∧ Below w.heap.size w w' := by

  go_enter Tryd.func86, Tryd.ntmps86
  go_wp2_with (at_make; refine make_ints _ rfl (.tmp 7) (.tmp 7) islC rfl w.heap.size .i64 .i64 _ _ s.size rfl rfl (by omega) (by omega) (by omega) (Nat.le_refl _) ?_; intro w1 hown1 hg1)
  have hsz1 := hg1.size
  have hb1 : Below w.heap.size w w1 := (Below.refl _ _).grown hg1 (Nat.le_refl _) (fun k hk => by cases hk)
  clear hg1
  go_loopw [11] (fun i wr => ∃ (k : Nat) (l : List Int), i = .int .i64 k ∧ ownsI wr w.heap.size 3 (.slice (some ⟨w.heap.size, 0, none⟩) s.size s.size) l ∧ Below w.heap.size w wr ∧ k ≤ s.size ∧ Hid (l.length = s.size) ∧ Hid (∀ q (hq : q < s.size), q < k → l.getD q 0 = (asc s[q] : Int))) (fun i _ => s.size - (intOf i).toNat)
  case atStart => exact ⟨0, _, by first | rfl | trivial, hown1, hb1, by omega, by show _ = _; simp, fun q hq h => absurd h (by omega)⟩
  case round =>
    obtain ⟨k, l, rfl, hown, hbel, hk, hl, hrel⟩ := hrel
    have hsz := hbel.size
    by_cases hlt : k < s.size
    · have hc' : ∃ v, wr.cell? ⟨w.heap.size, k, none⟩ = some v := ⟨_, ownsI.cellAt hown hl.out k (by have := hl.out; omega)⟩
      obtain ⟨v0, hc0⟩ := hc'
      have hf := ownsI.frozenAt hown hl.out k
      have hpc : wr.cell? p = some (.func (.func 84) #[] #[]) := cell_later hbel hp
      have hd := map_step (f := asc) hrel hlt hl.out
      have hown2 := ownsI.stored hown hl.out k (asc s[k] : Int)
      have hl2 : Hid ((l.set k (asc s[k] : Int)).length = s.size) := by show _ = _; rw [List.length_set]; exact hl.out
      have hbel2 : Below w.heap.size w (wr.setCell ⟨w.heap.size, k, none⟩ (.int .i64 (asc s[k]))) := hbel.setCell (Nat.le_refl _) _
      have hC := fun w => asciiP s[k] w
      generalize (asc s[k]) = V at hd hown2 hl2 hbel2 hC
      have HC := Lib.hid hC
      clear hrel hC hown hbel
      have hdr : ownsI (wr.setCell ⟨w.heap.size, k, none⟩ (.int .i64 V)).drew w.heap.size 3 (.slice (some ⟨w.heap.size, 0, none⟩) s.size s.size) (l.set k V) ∧ Below w.heap.size w (wr.setCell ⟨w.heap.size, k, none⟩ (.int .i64 V)).drew := ⟨hown2.drew, ⟨hbel2.os, hbel2.tape, hbel2.output, hbel2.size, hbel2.block⟩⟩
      go_upto_block 1 with fail
      go_cut [5] (fun _ wc => ownsI wc w.heap.size 3 (.slice (some ⟨w.heap.size, 0, none⟩) s.size s.size) (l.set k V) ∧ Below w.heap.size w wc)
      case first =>
        go_wp2_with fail
        go_region_with (go_at_call 84; (with_reducible refine (HC.out _).mono ?_); rintro e w3 ⟨rfl, rfl⟩)
        all_goals
          apply_assumption
          refine Met.intro ?_
          apply_assumption
          (repeat apply Exists.intro)
          exact ⟨hdr, rfl⟩
      case rest =>
        obtain ⟨hown3, hbel3⟩ := hcut
        go_wp2_with fail
        go_roundw
        case rel => exact ⟨k + 1, _, by go_num, hown3, hbel3, by omega, hl2, hd⟩
        case measure => simp [intOf]; omega
    · obtain rfl : k = s.size := by omega
      have he := Lib.hid (map_end hrel hl.out)
      have hj := Lib.hid (fun hl' hm => joined_any _ l wr w.heap.size hown hl' hm)
      have HM : Hid (∀ n ∈ l, ∃ m : Nat, n = (m : Int) ∧ Sca m) := by
        show ∀ n ∈ l, _
        rw [he.out]
        intro n hn
        obtain ⟨c, -, rfl⟩ := List.mem_map.1 hn
        exact ⟨asc c, rfl, asc_sca c⟩
      have hlz := hl.out
      clear hrel
      go_wp2_with (go_at_call 32; (with_reducible refine (hj.out (by omega) HM.out).mono ?_); rintro e w3 ⟨rfl, hb3⟩)
      go_ret
      rw [he.out, encsZ_map]
      exact ⟨rfl, hbel.trans (hb3.mono hsz)⟩
set_option maxHeartbeats 2000000 in
set_option maxRecDepth 100000 in
theorem byteL (s : ByteArray) (p : Addr) (w : World) (hp : w.cell? p = some (.func (.func 85) #[] #[])) (hs : s.size ≤ 3000000) : Calls Tryd.prog 86 #[.string s, .pointer (some p)] w fun e w' => e = .returned (.string ⟨(decB lat s.data.toList).toArray⟩) ∧ Below w.heap.size w w' := by

  go_enter Tryd.func86, Tryd.ntmps86
  go_wp2_with (at_make; refine make_ints _ rfl (.tmp 7) (.tmp 7) islC rfl w.heap.size .i64 .i64 _ _ s.size rfl rfl (by omega) (by omega) (by omega) (Nat.le_refl _) ?_; intro w1 hown1 hg1)
  have hsz1 := hg1.size
  have hb1 : Below w.heap.size w w1 := (Below.refl _ _).grown hg1 (Nat.le_refl _) (fun k hk => by cases hk)
  clear hg1
  go_loopw [11] (fun i wr => ∃ (k : Nat) (l : List Int), i = .int .i64 k ∧ ownsI wr w.heap.size 3 (.slice (some ⟨w.heap.size, 0, none⟩) s.size s.size) l ∧ Below w.heap.size w wr ∧ k ≤ s.size ∧ Hid (l.length = s.size) ∧ Hid (∀ q (hq : q < s.size), q < k → l.getD q 0 = (lat s[q] : Int))) (fun i _ => s.size - (intOf i).toNat)
  case atStart => exact ⟨0, _, by first | rfl | trivial, hown1, hb1, by omega, by show _ = _; simp, fun q hq h => absurd h (by omega)⟩
  case round =>
    obtain ⟨k, l, rfl, hown, hbel, hk, hl, hrel⟩ := hrel
    have hsz := hbel.size
    by_cases hlt : k < s.size
    · have hc' : ∃ v, wr.cell? ⟨w.heap.size, k, none⟩ = some v := ⟨_, ownsI.cellAt hown hl.out k (by have := hl.out; omega)⟩
      obtain ⟨v0, hc0⟩ := hc'
      have hf := ownsI.frozenAt hown hl.out k
      have hpc : wr.cell? p = some (.func (.func 85) #[] #[]) := cell_later hbel hp
      have hd := map_step (f := lat) hrel hlt hl.out
      have hown2 := ownsI.stored hown hl.out k (lat s[k] : Int)
      have hl2 : Hid ((l.set k (lat s[k] : Int)).length = s.size) := by show _ = _; rw [List.length_set]; exact hl.out
      have hbel2 : Below w.heap.size w (wr.setCell ⟨w.heap.size, k, none⟩ (.int .i64 (lat s[k]))) := hbel.setCell (Nat.le_refl _) _
      have hC := fun w => latinP s[k] w
      generalize (lat s[k]) = V at hd hown2 hl2 hbel2 hC
      have HC := Lib.hid hC
      clear hrel hC hown hbel
      have hdr : ownsI (wr.setCell ⟨w.heap.size, k, none⟩ (.int .i64 V)).drew w.heap.size 3 (.slice (some ⟨w.heap.size, 0, none⟩) s.size s.size) (l.set k V) ∧ Below w.heap.size w (wr.setCell ⟨w.heap.size, k, none⟩ (.int .i64 V)).drew := ⟨hown2.drew, ⟨hbel2.os, hbel2.tape, hbel2.output, hbel2.size, hbel2.block⟩⟩
      go_upto_block 1 with fail
      go_cut [5] (fun _ wc => ownsI wc w.heap.size 3 (.slice (some ⟨w.heap.size, 0, none⟩) s.size s.size) (l.set k V) ∧ Below w.heap.size w wc)
      case first =>
        go_wp2_with fail
        go_region_with (go_at_call 85; (with_reducible refine (HC.out _).mono ?_); rintro e w3 ⟨rfl, rfl⟩)
        all_goals
          apply_assumption
          refine Met.intro ?_
          apply_assumption
          (repeat apply Exists.intro)
          exact ⟨hdr, rfl⟩
      case rest =>
        obtain ⟨hown3, hbel3⟩ := hcut
        go_wp2_with fail
        go_roundw
        case rel => exact ⟨k + 1, _, by go_num, hown3, hbel3, by omega, hl2, hd⟩
        case measure => simp [intOf]; omega
    · obtain rfl : k = s.size := by omega
      have he := Lib.hid (map_end hrel hl.out)
      have hj := Lib.hid (fun hl' hm => joined_any _ l wr w.heap.size hown hl' hm)
      have HM : Hid (∀ n ∈ l, ∃ m : Nat, n = (m : Int) ∧ Sca m) := by
        show ∀ n ∈ l, _
        rw [he.out]
        intro n hn
        obtain ⟨c, -, rfl⟩ := List.mem_map.1 hn
        exact ⟨lat c, rfl, lat_sca c⟩
      have hlz := hl.out
      clear hrel
      go_wp2_with (go_at_call 32; (with_reducible refine (hj.out (by omega) HM.out).mono ?_); rintro e w3 ⟨rfl, hb3⟩)
      go_ret
      rw [he.out, encsZ_map]
      exact ⟨rfl, hbel.trans (hb3.mono hsz)⟩
set_option maxHeartbeats 2000000 in
set_option maxRecDepth 100000 in
theorem byteW (s : ByteArray) (p : Addr) (w : World) (hp : w.cell? p = some (.func (.func 68) #[] #[])) (hs : s.size ≤ 3000000) : Calls Tryd.prog 86 #[.string s, .pointer (some p)] w fun e w' => e = .returned (.string ⟨(decB win s.data.toList).toArray⟩) ∧ Below w.heap.size w w' := by

  go_enter Tryd.func86, Tryd.ntmps86
  go_wp2_with (at_make; refine make_ints _ rfl (.tmp 7) (.tmp 7) islC rfl w.heap.size .i64 .i64 _ _ s.size rfl rfl (by omega) (by omega) (by omega) (Nat.le_refl _) ?_; intro w1 hown1 hg1)
  have hsz1 := hg1.size
  have hb1 : Below w.heap.size w w1 := (Below.refl _ _).grown hg1 (Nat.le_refl _) (fun k hk => by cases hk)
  clear hg1
  go_loopw [11] (fun i wr => ∃ (k : Nat) (l : List Int), i = .int .i64 k ∧ ownsI wr w.heap.size 3 (.slice (some ⟨w.heap.size, 0, none⟩) s.size s.size) l ∧ Below w.heap.size w wr ∧ k ≤ s.size ∧ Hid (l.length = s.size) ∧ Hid (∀ q (hq : q < s.size), q < k → l.getD q 0 = (win s[q] : Int))) (fun i _ => s.size - (intOf i).toNat)
  case atStart => exact ⟨0, _, by first | rfl | trivial, hown1, hb1, by omega, by show _ = _; simp, fun q hq h => absurd h (by omega)⟩
  case round =>
    obtain ⟨k, l, rfl, hown, hbel, hk, hl, hrel⟩ := hrel
    have hsz := hbel.size
    by_cases hlt : k < s.size
    · have hc' : ∃ v, wr.cell? ⟨w.heap.size, k, none⟩ = some v := ⟨_, ownsI.cellAt hown hl.out k (by have := hl.out; omega)⟩
      obtain ⟨v0, hc0⟩ := hc'
      have hf := ownsI.frozenAt hown hl.out k
      have hpc : wr.cell? p = some (.func (.func 68) #[] #[]) := cell_later hbel hp
      have hd := map_step (f := win) hrel hlt hl.out
      have hown2 := ownsI.stored hown hl.out k (win s[k] : Int)
      have hl2 : Hid ((l.set k (win s[k] : Int)).length = s.size) := by show _ = _; rw [List.length_set]; exact hl.out
      have hbel2 : Below w.heap.size w (wr.setCell ⟨w.heap.size, k, none⟩ (.int .i64 (win s[k]))) := hbel.setCell (Nat.le_refl _) _
      have hC := fun w => windowsP s[k] w
      generalize (win s[k]) = V at hd hown2 hl2 hbel2 hC
      have HC := Lib.hid hC
      clear hrel hC hown hbel
      have hdr : ownsI (wr.setCell ⟨w.heap.size, k, none⟩ (.int .i64 V)).drew w.heap.size 3 (.slice (some ⟨w.heap.size, 0, none⟩) s.size s.size) (l.set k V) ∧ Below w.heap.size w (wr.setCell ⟨w.heap.size, k, none⟩ (.int .i64 V)).drew := ⟨hown2.drew, ⟨hbel2.os, hbel2.tape, hbel2.output, hbel2.size, hbel2.block⟩⟩
      go_upto_block 1 with fail
      go_cut [5] (fun _ wc => ownsI wc w.heap.size 3 (.slice (some ⟨w.heap.size, 0, none⟩) s.size s.size) (l.set k V) ∧ Below w.heap.size w wc)
      case first =>
        go_wp2_with fail
        go_region_with (go_at_call 68; (with_reducible refine (HC.out _).mono ?_); rintro e w3 ⟨rfl, rfl⟩)
        all_goals
          apply_assumption
          refine Met.intro ?_
          apply_assumption
          (repeat apply Exists.intro)
          exact ⟨hdr, rfl⟩
      case rest =>
        obtain ⟨hown3, hbel3⟩ := hcut
        go_wp2_with fail
        go_roundw
        case rel => exact ⟨k + 1, _, by go_num, hown3, hbel3, by omega, hl2, hd⟩
        case measure => simp [intOf]; omega
    · obtain rfl : k = s.size := by omega
      have he := Lib.hid (map_end hrel hl.out)
      have hj := Lib.hid (fun hl' hm => joined_any _ l wr w.heap.size hown hl' hm)
      have HM : Hid (∀ n ∈ l, ∃ m : Nat, n = (m : Int) ∧ Sca m) := by
        show ∀ n ∈ l, _
        rw [he.out]
        intro n hn
        obtain ⟨c, -, rfl⟩ := List.mem_map.1 hn
        exact ⟨win c, rfl, win_sca c⟩
      have hlz := hl.out
      clear hrel
      go_wp2_with (go_at_call 32; (with_reducible refine (hj.out (by omega) HM.out).mono ?_); rintro e w3 ⟨rfl, hb3⟩)
      go_ret
      rw [he.out, encsZ_map]
      exact ⟨rfl, hbel.trans (hb3.mono hsz)⟩
end Go.Proofs.YtafmldooephmaaaDoor
