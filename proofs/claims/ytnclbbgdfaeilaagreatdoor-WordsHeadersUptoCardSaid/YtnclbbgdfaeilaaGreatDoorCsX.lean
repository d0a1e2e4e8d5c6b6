/- Walks: charset: ascii, latin, windows, bytewise, readers, small, Decode. Printed by genCsD.py. Walks: charset: small, bytewise, readers, Decode. Walks: charset: readers, Decode. Walks: charset: Decode. -/
import Derived.Test.YtnclbbgdfaeilaaGreatDoorCha
import Derived.Test.YtnclbbgdfaeilaaGreatDoorCsP
import Derived.Test.YtnclbbgdfaeilaaGreatDoorKitX
import Derived.Test.YtnclbbgdfaeilaaGreatDoorBldR
import Derived.Lib.ConvBytes
import Derived.Lib.AtoiErrMem
import Derived.Deep.DeepCutAuto
import Derived.Deep.CutBlock
import Derived.OwnWalk
namespace Go.Proofs.YtnclbbgdfaeilaaGreatDoor
open Go.RowKit Pk U8 Cs

set_option maxRecDepth 100000 in
theorem asciiP (c : UInt8) (w : World) : Calls Tryz.prog 130 #[.int .u8 c.toNat] w fun e w' => e = .returned (.int .i64 (asc c)) ∧ w = w' := by
  have hc := c.toNat_lt
  unfold asc
  by_cases h : c.toNat < 128
  · rw [if_pos h]
    go_enter Tryz.func130, Tryz.ntmps130
    go_wp2
    go_ret
    exact ⟨rfl, rfl⟩
  · rw [if_neg h]
    go_enter Tryz.func130, Tryz.ntmps130
    go_wp2
    go_ret
    exact ⟨rfl, rfl⟩
theorem latinP (c : UInt8) (w : World) : Calls Tryz.prog 131 #[.int .u8 c.toNat] w fun e w' => e = .returned (.int .i64 (lat c)) ∧ w = w' := by
  have hc := c.toNat_lt
  go_enter Tryz.func131, Tryz.ntmps131
  go_wp2
  go_ret
  exact ⟨rfl, rfl⟩
theorem ix_win (w : World) : ∀ k : Nat, k < 32 → (Instr.index 146 (.agg #[.int .i64 8364, .int .i64 129, .int .i64 8218, .int .i64 402, .int .i64 8222, .int .i64 8230, .int .i64 8224, .int .i64 8225, .int .i64 710, .int .i64 8240, .int .i64 352, .int .i64 8249, .int .i64 338, .int .i64 141, .int .i64 381, .int .i64 143, .int .i64 144, .int .i64 8216, .int .i64 8217, .int .i64 8220, .int .i64 8221, .int .i64 8226, .int .i64 8211, .int .i64 8212, .int .i64 732, .int .i64 8482, .int .i64 353, .int .i64 8250, .int .i64 339, .int .i64 157, .int .i64 382, .int .i64 376]) (.int .u8 k)).run Tryz.prog w = .ok (.int .i64 (winTab.getD k 0 : Nat)) w := by
  intro k hk
  rcases (show k = 0 ∨ k = 1 ∨ k = 2 ∨ k = 3 ∨ k = 4 ∨ k = 5 ∨ k = 6 ∨ k = 7 ∨ k = 8 ∨ k = 9 ∨ k = 10 ∨ k = 11 ∨ k = 12 ∨ k = 13 ∨ k = 14 ∨ k = 15 ∨ k = 16 ∨ k = 17 ∨ k = 18 ∨ k = 19 ∨ k = 20 ∨ k = 21 ∨ k = 22 ∨ k = 23 ∨ k = 24 ∨ k = 25 ∨ k = 26 ∨ k = 27 ∨ k = 28 ∨ k = 29 ∨ k = 30 ∨ k = 31 by omega) with rfl | rfl | rfl | rfl | rfl | rfl | rfl | rfl | rfl | rfl | rfl | rfl | rfl | rfl | rfl | rfl | rfl | rfl | rfl | rfl | rfl | rfl | rfl | rfl | rfl | rfl | rfl | rfl | rfl | rfl | rfl | rfl
  all_goals kernel_rfl
set_option maxHeartbeats 4000000 in
set_option maxRecDepth 100000 in
theorem windowsP (c : UInt8) (w : World) : Calls Tryz.prog 104 #[.int .u8 c.toNat] w fun e w' => e = .returned (.int .i64 (win c)) ∧ w = w' := by
  have hc := c.toNat_lt
  unfold win
  by_cases h : c.toNat < 128
  · rw [if_pos (.inl h)]
    go_enter Tryz.func104, Tryz.ntmps104
    go_wp2
    go_ret
    exact ⟨rfl, rfl⟩
  · by_cases h2 : 160 ≤ c.toNat
    · rw [if_pos (.inr h2)]
      go_enter Tryz.func104, Tryz.ntmps104
      go_wp2
      go_ret
      exact ⟨rfl, rfl⟩
    · rw [if_neg (by omega)]
      have hix := ix_win w (c.toNat - 128) (by omega)
      have e : ((c.toNat - 128 : Nat) : Int) = (c.toNat : Int) - 128 := by omega
      rw [e] at hix
      have h3 : ¬ (160 : Int) ≤ c.toNat := by omega
      clear e
      go_enter Tryz.func104, Tryz.ntmps104
      go_wp2
      go_ret
      exact ⟨rfl, rfl⟩
theorem map_step {f : UInt8 → Nat} {s : ByteArray} {k : Nat} {l : List Int} (h : Hid (∀ q (hq : q < s.size), q < k → l.getD q 0 = (f s[q] : Int))) (hk : k < s.size) (hl : l.length = s.size) : Hid (∀ q (hq : q < s.size), q < k + 1 → (l.set k (f s[k] : Int)).getD q 0 = (f s[q] : Int)) := by
  intro q hq hlt
  by_cases e : q = k
  · subst e
    rw [List.getD_eq_getElem?_getD, List.getElem?_set_self (by omega)]; rfl
  · rw [List.getD_eq_getElem?_getD, List.getElem?_set_ne (by omega), ← List.getD_eq_getElem?_getD]
    exact h.out q hq (by omega)
theorem map_end {f : UInt8 → Nat} {s : ByteArray} {l : List Int} (h : Hid (∀ q (hq : q < s.size), q < s.size → l.getD q 0 = (f s[q] : Int))) (hl : l.length = s.size) : l = s.data.toList.map fun c => (f c : Int) := by
  apply List.ext_getElem
  · rw [hl, List.length_map]; rfl
  · intro q h1 h2
    have := h.out q (by omega) (by omega)
    rw [List.getD_eq_getElem?_getD, List.getElem?_eq_getElem h1] at this
    rw [List.getElem_map]
    exact this
theorem encsZ_map (f : UInt8 → Nat) (l : List UInt8) : encsZ (l.map fun c => (f c : Int)) = decB f l := by
  unfold encsZ decB
  rw [List.flatMap_map]
set_option maxHeartbeats 2000000 in
set_option maxRecDepth 100000 in
theorem byteA (s : ByteArray) (p : Addr) (w : World) (hp : w.cell? p = some (.func (.func 130) #[] #[])) (hs : s.size ≤ 3000000) : Calls Tryz.prog 132 #[.string s, .pointer (some p)] w fun e w' => e = .returned (.string ⟨(decB asc s.data.toList).toArray⟩) ∧ Below w.heap.size w w' := by

  go_enter Tryz.func132, Tryz.ntmps132
  go_wp2_with (at_make; refine make_ints _ rfl (.tmp 7) (.tmp 7) islC rfl w.heap.size .i64 .i64 _ _ s.size rfl rfl (by omega) (by omega) (by omega) (Nat.le_refl _) ?_; intro w1 hown1 hg1)
  have hsz1 := hg1.size
  have hb1 : Below w.heap.size w w1 := (Below.refl _ _).grown hg1 (Nat.le_refl _) (fun k hk => by cases hk)
  clear hg1
  go_loopw [11] (fun i wr => ∃ (k : Nat) (l : List Int), i = .int .i64 k ∧ ownsI wr w.heap.size 3 (.slice (some ⟨w.heap.size, 0, none⟩) s.size s.size) l ∧ Below w.heap.size w wr ∧ k ≤ s.size ∧ Hid (l.length = s.size) ∧ Hid (∀ q (hq : q < s.size), q < k → l.getD q 0 = (asc s[q] : Int))) (fun i _ => s.size - (intOf i).toNat)
  case atStart => exact ⟨0, _, by first | rfl | trivial, hown1, hb1, by omega, by show _ = _; simp, fun q hq h => absurd h (by omega)⟩
  case round =>
    obtain ⟨k, l, rfl, hown, hbel, hk, hl, hrel⟩ := hrel
    have hsz := hbel.size
    by_cases hlt : k < s.size
    · have hc' : ∃ v, wr.cell? ⟨w.heap.size, k, none⟩ = some v := ⟨_, ownsI.cellAt hown hl.out k (by have := hl.out; omega)⟩
      obtain ⟨v0, hc0⟩ := hc'
      have hf := ownsI.frozenAt hown hl.out k
      have hpc : wr.cell? p = some (.func (.func 130) #[] #[]) := cell_later hbel hp
      have hd := map_step (f := asc) hrel hlt hl.out
      have hown2 := ownsI.stored hown hl.out k (asc s[k] : Int)
      have hl2 : Hid ((l.set k (asc s[k] : Int)).length = s.size) := by show _ = _; rw [List.length_set]; exact hl.out
      have hbel2 : Below w.heap.size w (wr.setCell ⟨w.heap.size, k, none⟩ (.int .i64 (asc s[k]))) := hbel.setCell (Nat.le_refl _) _
      have hC := fun w => asciiP s[k] w
      generalize (asc s[k]) = V at hd hown2 hl2 hbel2 hC
      have HC := Lib.hid hC
      clear hrel hC hown hbel
      have hdr : ownsI (wr.setCell ⟨w.heap.size, k, none⟩ (.int .i64 V)).drew w.heap.size 3 (.slice (some ⟨w.heap.size, 0, none⟩) s.size s.size) (l.set k V) ∧ Below w.heap.size w (wr.setCell ⟨w.heap.size, k, none⟩ (.int .i64 V)).drew := ⟨hown2.drew, ⟨hbel2.os, hbel2.tape, hbel2.output, hbel2.size, hbel2.block⟩⟩
      go_upto_block 1 with fail
      go_cut [5] (fun _ wc => ownsI wc w.heap.size 3 (.slice (some ⟨w.heap.size, 0, none⟩) s.size s.size) (l.set k V) ∧ Below w.heap.size w wc)
      case first =>
        go_wp2_with fail
        go_region_with (go_at_call 130; (with_reducible refine (HC.out _).mono ?_); rintro e w3 ⟨rfl, rfl⟩)
        all_goals
          apply_assumption
          refine Met.intro ?_
          apply_assumption
          (repeat apply Exists.intro)
          exact ⟨hdr, rfl⟩
      case rest =>
        obtain ⟨hown3, hbel3⟩ := hcut
        go_wp2_with fail
        go_roundw
        case rel => exact ⟨k + 1, _, by go_num, hown3, hbel3, by omega, hl2, hd⟩
        case measure => simp [intOf]; omega
    · obtain rfl : k = s.size := by omega
      have he := Lib.hid (map_end hrel hl.out)
      have hj := Lib.hid (fun hl' hm => joined_any _ l wr w.heap.size hown hl' hm)
      have HM : Hid (∀ n ∈ l, ∃ m : Nat, n = (m : Int) ∧ Sca m) := by
        show ∀ n ∈ l, _
        rw [he.out]
        intro n hn
        obtain ⟨c, -, rfl⟩ := List.mem_map.1 hn
        exact ⟨asc c, rfl, asc_sca c⟩
      have hlz := hl.out
      clear hrel
      go_wp2_with (go_at_call 37; (with_reducible refine (hj.out (by omega) HM.out).mono ?_); rintro e w3 ⟨rfl, hb3⟩)
      go_ret
      rw [he.out, encsZ_map]
      exact ⟨rfl, hbel.trans (hb3.mono hsz)⟩
set_option maxHeartbeats 2000000 in
set_option maxRecDepth 100000 in
theorem byteL (s : ByteArray) (p : Addr) (w : World) (hp : w.cell? p = some (.func (.func 131) #[] #[])) (hs : s.size ≤ 3000000) : Calls Tryz.prog 132 #[.string s, .pointer (some p)] w fun e w' => e = .returned (.string ⟨(decB lat s.data.toList).toArray⟩) ∧ Below w.heap.size w w' := by

  go_enter Tryz.func132, Tryz.ntmps132
  go_wp2_with (at_make; refine make_ints _ rfl (.tmp 7) (.tmp 7) islC rfl w.heap.size .i64 .i64 _ _ s.size rfl rfl (by omega) (by omega) (by omega) (Nat.le_refl _) ?_; intro w1 hown1 hg1)
  have hsz1 := hg1.size
  have hb1 : Below w.heap.size w w1 := (Below.refl _ _).grown hg1 (Nat.le_refl _) (fun k hk => by cases hk)
  clear hg1
  go_loopw [11] (fun i wr => ∃ (k : Nat) (l : List Int), i = .int .i64 k ∧ ownsI wr w.heap.size 3 (.slice (some ⟨w.heap.size, 0, none⟩) s.size s.size) l ∧ Below w.heap.size w wr ∧ k ≤ s.size ∧ Hid (l.length = s.size) ∧ Hid (∀ q (hq : q < s.size), q < k → l.getD q 0 = (lat s[q] : Int))) (fun i _ => s.size - (intOf i).toNat)
  case atStart => exact ⟨0, _, by first | rfl | trivial, hown1, hb1, by omega, by show _ = _; simp, fun q hq h => absurd h (by omega)⟩
  case round =>
    obtain ⟨k, l, rfl, hown, hbel, hk, hl, hrel⟩ := hrel
    have hsz := hbel.size
    by_cases hlt : k < s.size
    · have hc' : ∃ v, wr.cell? ⟨w.heap.size, k, none⟩ = some v := ⟨_, ownsI.cellAt hown hl.out k (by have := hl.out; omega)⟩
      obtain ⟨v0, hc0⟩ := hc'
      have hf := ownsI.frozenAt hown hl.out k
      have hpc : wr.cell? p = some (.func (.func 131) #[] #[]) := cell_later hbel hp
      have hd := map_step (f := lat) hrel hlt hl.out
      have hown2 := ownsI.stored hown hl.out k (lat s[k] : Int)
      have hl2 : Hid ((l.set k (lat s[k] : Int)).length = s.size) := by show _ = _; rw [List.length_set]; exact hl.out
      have hbel2 : Below w.heap.size w (wr.setCell ⟨w.heap.size, k, none⟩ (.int .i64 (lat s[k]))) := hbel.setCell (Nat.le_refl _) _
      have hC := fun w => latinP s[k] w
      generalize (lat s[k]) = V at hd hown2 hl2 hbel2 hC
      have HC := Lib.hid hC
      clear hrel hC hown hbel
      have hdr : ownsI (wr.setCell ⟨w.heap.size, k, none⟩ (.int .i64 V)).drew w.heap.size 3 (.slice (some ⟨w.heap.size, 0, none⟩) s.size s.size) (l.set k V) ∧ Below w.heap.size w (wr.setCell ⟨w.heap.size, k, none⟩ (.int .i64 V)).drew := ⟨hown2.drew, ⟨hbel2.os, hbel2.tape, hbel2.output, hbel2.size, hbel2.block⟩⟩
      go_upto_block 1 with fail
      go_cut [5] (fun _ wc => ownsI wc w.heap.size 3 (.slice (some ⟨w.heap.size, 0, none⟩) s.size s.size) (l.set k V) ∧ Below w.heap.size w wc)
      case first =>
        go_wp2_with fail
        go_region_with (go_at_call 131; (with_reducible refine (HC.out _).mono ?_); rintro e w3 ⟨rfl, rfl⟩)
        all_goals
          apply_assumption
          refine Met.intro ?_
          apply_assumption
          (repeat apply Exists.intro)
          exact ⟨hdr, rfl⟩
      case rest =>
        obtain ⟨hown3, hbel3⟩ := hcut
        go_wp2_with fail
        go_roundw
        case rel => exact ⟨k + 1, _, by go_num, hown3, hbel3, by omega, hl2, hd⟩
        case measure => simp [intOf]; omega
    · obtain rfl : k = s.size := by omega
      have he := Lib.hid (map_end hrel hl.out)
      have hj := Lib.hid (fun hl' hm => joined_any _ l wr w.heap.size hown hl' hm)
      have HM : Hid (∀ n ∈ l, ∃ m : Nat, n = (m : Int) ∧ Sca m) := by
        show ∀ n ∈ l, _
        rw [he.out]
        intro n hn
        obtain ⟨c, -, rfl⟩ := List.mem_map.1 hn
        exact ⟨lat c, rfl, lat_sca c⟩
      have hlz := hl.out
      clear hrel
      go_wp2_with (go_at_call 37; (with_reducible refine (hj.out (by omega) HM.out).mono ?_); rintro e w3 ⟨rfl, hb3⟩)
      go_ret
      rw [he.out, encsZ_map]
      exact ⟨rfl, hbel.trans (hb3.mono hsz)⟩
set_option maxHeartbeats 2000000 in
set_option maxRecDepth 100000 in
theorem byteW (s : ByteArray) (p : Addr) (w : World) (hp : w.cell? p = some (.func (.func 104) #[] #[])) (hs : s.size ≤ 3000000) : Calls Tryz.prog 132 #[.string s, .pointer (some p)] w fun e w' => e = .returned (.string ⟨(decB win s.data.toList).toArray⟩) ∧ Below w.heap.size w w' := by

  go_enter Tryz.func132, Tryz.ntmps132
  go_wp2_with (at_make; refine make_ints _ rfl (.tmp 7) (.tmp 7) islC rfl w.heap.size .i64 .i64 _ _ s.size rfl rfl (by omega) (by omega) (by omega) (Nat.le_refl _) ?_; intro w1 hown1 hg1)
  have hsz1 := hg1.size
  have hb1 : Below w.heap.size w w1 := (Below.refl _ _).grown hg1 (Nat.le_refl _) (fun k hk => by cases hk)
  clear hg1
  go_loopw [11] (fun i wr => ∃ (k : Nat) (l : List Int), i = .int .i64 k ∧ ownsI wr w.heap.size 3 (.slice (some ⟨w.heap.size, 0, none⟩) s.size s.size) l ∧ Below w.heap.size w wr ∧ k ≤ s.size ∧ Hid (l.length = s.size) ∧ Hid (∀ q (hq : q < s.size), q < k → l.getD q 0 = (win s[q] : Int))) (fun i _ => s.size - (intOf i).toNat)
  case atStart => exact ⟨0, _, by first | rfl | trivial, hown1, hb1, by omega, by show _ = _; simp, fun q hq h => absurd h (by omega)⟩
  case round =>
    obtain ⟨k, l, rfl, hown, hbel, hk, hl, hrel⟩ := hrel
    have hsz := hbel.size
    by_cases hlt : k < s.size
    · have hc' : ∃ v, wr.cell? ⟨w.heap.size, k, none⟩ = some v := ⟨_, ownsI.cellAt hown hl.out k (by have := hl.out; omega)⟩
      obtain ⟨v0, hc0⟩ := hc'
      have hf := ownsI.frozenAt hown hl.out k
      have hpc : wr.cell? p = some (.func (.func 104) #[] #[]) := cell_later hbel hp
      have hd := map_step (f := win) hrel hlt hl.out
      have hown2 := ownsI.stored hown hl.out k (win s[k] : Int)
      have hl2 : Hid ((l.set k (win s[k] : Int)).length = s.size) := by show _ = _; rw [List.length_set]; exact hl.out
      have hbel2 : Below w.heap.size w (wr.setCell ⟨w.heap.size, k, none⟩ (.int .i64 (win s[k]))) := hbel.setCell (Nat.le_refl _) _
      have hC := fun w => windowsP s[k] w
      generalize (win s[k]) = V at hd hown2 hl2 hbel2 hC
      have HC := Lib.hid hC
      clear hrel hC hown hbel
      have hdr : ownsI (wr.setCell ⟨w.heap.size, k, none⟩ (.int .i64 V)).drew w.heap.size 3 (.slice (some ⟨w.heap.size, 0, none⟩) s.size s.size) (l.set k V) ∧ Below w.heap.size w (wr.setCell ⟨w.heap.size, k, none⟩ (.int .i64 V)).drew := ⟨hown2.drew, ⟨hbel2.os, hbel2.tape, hbel2.output, hbel2.size, hbel2.block⟩⟩
      go_upto_block 1 with fail
      go_cut [5] (fun _ wc => ownsI wc w.heap.size 3 (.slice (some ⟨w.heap.size, 0, none⟩) s.size s.size) (l.set k V) ∧ Below w.heap.size w wc)
      case first =>
        go_wp2_with fail
        go_region_with (go_at_call 104; (with_reducible refine (HC.out _).mono ?_); rintro e w3 ⟨rfl, rfl⟩)
        all_goals
          apply_assumption
          refine Met.intro ?_
          apply_assumption
          (repeat apply Exists.intro)
          exact ⟨hdr, rfl⟩
      case rest =>
        obtain ⟨hown3, hbel3⟩ := hcut
        go_wp2_with fail
        go_roundw
        case rel => exact ⟨k + 1, _, by go_num, hown3, hbel3, by omega, hl2, hd⟩
        case measure => simp [intOf]; omega
    · obtain rfl : k = s.size := by omega
      have he := Lib.hid (map_end hrel hl.out)
      have hj := Lib.hid (fun hl' hm => joined_any _ l wr w.heap.size hown hl' hm)
      have HM : Hid (∀ n ∈ l, ∃ m : Nat, n = (m : Int) ∧ Sca m) := by
        show ∀ n ∈ l, _
        rw [he.out]
        intro n hn
        obtain ⟨c, -, rfl⟩ := List.mem_map.1 hn
        exact ⟨win c, rfl, win_sca c⟩
      have hlz := hl.out
      clear hrel
      go_wp2_with (go_at_call 37; (with_reducible refine (hj.out (by omega) HM.out).mono ?_); rintro e w3 ⟨rfl, hb3⟩)
      go_ret
      rw [he.out, encsZ_map]
      exact ⟨rfl, hbel.trans (hb3.mono hsz)⟩
end Go.Proofs.YtnclbbgdfaeilaaGreatDoor
namespace Go.Proofs.YtnclbbgdfaeilaaGreatDoor
open Go.RowKit Pk U8 Cs

theorem bslF : ByteSl Tryz.prog 46 5 where
  ht := Tryz.underlying46
  he := Tryz.underlying5
  hi := info_parts (show (Tryz.prog.info? 5).map (fun i => (i.zero, i.size, i.bytes)) = some (some (.int .u8 0), 1, 1) by kernel_rfl)
def mix (s : ByteArray) (k : Nat) : List UInt8 := (s.data.toList.take k).map Su.lowc ++ s.data.toList.drop k
theorem mix_length (s : ByteArray) (k : Nat) : (mix s k).length = s.size := by
  unfold mix
  have : s.data.toList.length = s.size := rfl
  rw [List.length_append, List.length_map, List.length_take, List.length_drop]; omega
theorem mix_at (s : ByteArray) (k : Nat) (h : k < s.size) (h2 : k < (mix s k).length) : (mix s k)[k] = s[k] := by
  have hl : s.data.toList.length = s.size := rfl
  have e : (mix s k)[k]? = some s[k] := by
    unfold mix
    rw [List.getElem?_append_right (by rw [List.length_map, List.length_take]; omega), List.length_map, List.length_take, List.getElem?_drop]
    have : k + (k - min k s.data.toList.length) = k := by omega
    rw [this, List.getElem?_eq_getElem (by omega)]
    rfl
  rw [List.getElem?_eq_getElem h2] at e
  exact Option.some.inj e
theorem mix_step (s : ByteArray) (k : Nat) (h : k < s.size) : (mix s k).set k (Su.lowc s[k]) = mix s (k + 1) := by
  have hl : s.data.toList.length = s.size := rfl
  unfold mix
  rw [List.set_append_right _ _ (by rw [List.length_map, List.length_take]; omega)]
  have e : k - ((s.data.toList.take k).map Su.lowc).length = 0 := by rw [List.length_map, List.length_take]; omega
  rw [e, List.drop_eq_getElem_cons (by omega), List.set_cons_zero, List.take_succ_eq_append_getElem (by omega), List.map_append]
  simp
  rfl
theorem mix_same (s : ByteArray) (k : Nat) (h : k < s.size) (hl : Su.lowc s[k] = s[k]) : mix s k = mix s (k + 1) := by
  rw [← mix_step s k h, hl]
  have h2 : k < (mix s k).length := by rw [mix_length]; exact h
  have := mix_at s k h h2
  rw [← this]
  exact (List.set_getElem_self h2).symm
theorem mix_zero (s : ByteArray) : mix s 0 = s.data.toList := by unfold mix; simp
theorem mix_end (s : ByteArray) : mix s s.size = s.data.toList.map Su.lowc := by
  unfold mix
  have hl : s.data.toList.length = s.size := rfl
  rw [List.take_of_length_le (by omega), List.drop_eq_nil_of_le (by omega), List.append_nil]
theorem low_b8 {c : UInt8} (h1 : 65 ≤ c.toNat) (h2 : c.toNat ≤ 90) : b8 ((c.toNat : Int) + 97 - 65) = Su.lowc c := by
  unfold Su.lowc
  rw [if_pos ⟨h1, h2⟩]
  apply UInt8.toNat_inj.1
  have := b8_toNat ((c.toNat : Int) + 97 - 65) (by omega) (by omega)
  rw [UInt8.toNat_add]
  have e : (32 : UInt8).toNat = 32 := rfl
  rw [e]
  omega
set_option maxHeartbeats 1000000 in
set_option maxRecDepth 100000 in
theorem smallP_any (s : ByteArray) (w : World) (hs : s.size ≤ 3000000) : Calls Tryz.prog 102 #[.string s] w fun e w' => e = .returned (.string ⟨(s.data.toList.map Su.lowc).toArray⟩) ∧ Below w.heap.size w w' := by
  obtain ⟨cp, w1, hcv, hrow, hb1, hz1⟩ := conv_row (P := Tryz.prog) w 9 46 5 s Tryz.underlying9 Tryz.underlying46 Tryz.underlying5
  rw [← mix_zero] at hrow
  go_enter Tryz.func102, Tryz.ntmps102
  go_wp2
  go_loopw [10] (fun i wr => ∃ (k : Nat), i = .int .i64 k ∧ rowF wr w.heap.size 5 (mix s k) ∧ Below w.heap.size w wr ∧ k ≤ s.size) (fun i _ => s.size - (intOf i).toNat)
  case atStart => exact ⟨0, by first | rfl | trivial, hrow, hb1, by omega⟩
  case round =>
    clear hrow hcv hb1 hz1
    obtain ⟨k, rfl, hrow, hbel, hk⟩ := hrel
    have hsz := hbel.size
    by_cases hlt : k < s.size
    · have hc := rowF_cell hrow k (by rw [mix_length]; exact hlt)
      rw [mix_at s k hlt] at hc
      have hf := rowF_frozen hrow k (by rw [mix_length]; exact hlt)
      have hb := s[k].toNat_lt
      by_cases h1 : 65 ≤ s[k].toNat
      · by_cases h2 : s[k].toNat ≤ 90
        · have hrow2 := rowF_stored hrow k ((s[k].toNat : Int) + 97 - 65) (by omega) (by omega)
          rw [low_b8 h1 h2, mix_step s k hlt] at hrow2
          have hbel2 : Below w.heap.size w (wr.setCell ⟨w.heap.size, k, none⟩ (.int .u8 ((s[k].toNat : Int) + 97 - 65))) := hbel.setCell (Nat.le_refl _) _
          clear hrow
          go_wp2
          go_roundw
          case rel => exact ⟨k + 1, by go_num, hrow2, hbel2, by omega⟩
          case measure => simp [intOf]; omega
        · rw [mix_same s k hlt (by unfold Su.lowc; rw [if_neg (by omega)])] at hrow
          go_wp2
          go_roundw
          case rel => exact ⟨k + 1, by go_num, hrow, hbel, by omega⟩
          case measure => simp [intOf]; omega
      · rw [mix_same s k hlt (by unfold Su.lowc; rw [if_neg (by omega)])] at hrow
        go_wp2
        go_roundw
        case rel => exact ⟨k + 1, by go_num, hrow, hbel, by omega⟩
        case measure => simp [intOf]; omega
    · obtain rfl : k = s.size := by omega
      have hcv := run_string_row (P := Tryz.prog) (ts := 9) (n := s.size) (cap := cp) bslF Tryz.underlying9 hrow (mix_length _ _)
      rw [mix_end] at hcv
      clear hrow
      go_wp2
      go_ret
      exact ⟨rfl, hbel⟩

/-- a byte-wise decoder, made -/
def closV (b : Nat) : Value := .func (.func 132) #[] #[.pointer (some ⟨b, 0, none⟩)]
theorem bytewise_any (fn : Nat) (w : World) : Calls Tryz.prog 103 #[.func (.func fn) #[] #[]] w fun e w' => e = .returned (closV w.heap.size) ∧ w'.cell? ⟨w.heap.size, 0, none⟩ = some (.func (.func fn) #[] #[]) ∧ Below w.heap.size w w' ∧ w.heap.size < w'.heap.size := by
  have hc := cells_new w [.func (.func fn) #[] #[]] 120 0 _ rfl
  rw [Addr.add_lit] at hc
  have hb : Below w.heap.size w (w.alloc (.cells #[.func (.func fn) #[] #[]] 120)) := (Below.refl _ _).alloc (Nat.le_refl _) _
  go_enter Tryz.func103, Tryz.ntmps103
  go_wp2
  go_ret
  exact ⟨rfl, hc, hb, by simp⟩
end Go.Proofs.YtnclbbgdfaeilaaGreatDoor
namespace Go.Proofs.YtnclbbgdfaeilaaGreatDoor
open Go.RowKit Pk U8 Cs

def kUs : ByteArray := ⟨#[117, 115, 45, 97, 115, 99, 105, 105]⟩
def kAs : ByteArray := ⟨#[97, 115, 99, 105, 105]⟩
def kU8 : ByteArray := ⟨#[117, 116, 102, 45, 56]⟩
def kU : ByteArray := ⟨#[117, 116, 102, 56]⟩
def kIso : ByteArray := ⟨#[105, 115, 111, 45, 56, 56, 53, 57, 45, 49]⟩
def kL1 : ByteArray := ⟨#[108, 97, 116, 105, 110, 49]⟩
def kW : ByteArray := ⟨#[119, 105, 110, 100, 111, 119, 115, 45, 49, 50, 53, 50]⟩
def kCp : ByteArray := ⟨#[99, 112, 49, 50, 53, 50]⟩
def repV : Value := .func (.func 12) #[] #[]
def kvsR (b1 b2 b3 : Nat) : List (ByteArray × Value) := [(⟨#[117, 115, 45, 97, 115, 99, 105, 105]⟩, closV b1), (⟨#[97, 115, 99, 105, 105]⟩, closV b1), (⟨#[117, 116, 102, 45, 56]⟩, repV), (⟨#[117, 116, 102, 56]⟩, repV), (⟨#[105, 115, 111, 45, 56, 56, 53, 57, 45, 49]⟩, closV b2), (⟨#[108, 97, 116, 105, 110, 49]⟩, closV b2), (⟨#[119, 105, 110, 100, 111, 119, 115, 45, 49, 50, 53, 50]⟩, closV b3), (⟨#[99, 112, 49, 50, 53, 50]⟩, closV b3)]
theorem ba_beq (n k : List UInt8) : ((⟨n.toArray⟩ : ByteArray) == ⟨k.toArray⟩) = decide (n = k) := by
  show (n.toArray == k.toArray) = _
  by_cases h : n = k
  · subst h; simp
  · rw [decide_eq_false h]
    simp [h]
theorem get_kind (name : List UInt8) (b1 b2 b3 : Nat) : mapGet ⟨(name.map Su.lowc).toArray⟩ .nilFunc (kvsR b1 b2 b3) =
    if kindL name = 1 then closV b1 else if kindL name = 2 then repV else if kindL name = 3 then closV b2 else if kindL name = 4 then closV b3 else .nilFunc := by
  have e1 := ba_beq (name.map Su.lowc) usascii
  have e2 := ba_beq (name.map Su.lowc) ascii
  have e3 := ba_beq (name.map Su.lowc) utf_8
  have e4 := ba_beq (name.map Su.lowc) utf8
  have e5 := ba_beq (name.map Su.lowc) iso
  have e6 := ba_beq (name.map Su.lowc) latin1
  have e7 := ba_beq (name.map Su.lowc) win52
  have e8 := ba_beq (name.map Su.lowc) cp52
  unfold kindL kvsR
  simp only
  generalize name.map Su.lowc = n at *
  unfold usascii at e1; unfold ascii at e2; unfold utf_8 at e3; unfold utf8 at e4; unfold iso at e5; unfold latin1 at e6; unfold win52 at e7; unfold cp52 at e8
  simp only [mapGet, e1, e2, e3, e4, e5, e6, e7, e8, decide_eq_true_eq]
  unfold usascii ascii utf_8 utf8 iso latin1 win52 cp52
  by_cases h1 : n = [117, 115, 45, 97, 115, 99, 105, 105]
  · simp [h1]
  by_cases h2 : n = [97, 115, 99, 105, 105]
  · simp [h2]
  by_cases h3 : n = [117, 116, 102, 45, 56]
  · simp [h3]
  by_cases h4 : n = [117, 116, 102, 56]
  · simp [h4]
  by_cases h5 : n = [105, 115, 111, 45, 56, 56, 53, 57, 45, 49]
  · simp [h5]
  by_cases h6 : n = [108, 97, 116, 105, 110, 49]
  · simp [h6]
  by_cases h7 : n = [119, 105, 110, 100, 111, 119, 115, 45, 49, 50, 53, 50]
  · simp [h7]
  by_cases h8 : n = [99, 112, 49, 50, 53, 50]
  · simp [h8]
  simp [h1, h2, h3, h4, h5, h6, h7, h8]
/-- the decoders by name, made -/
structure RdIs (w w' : World) (r b1 b2 b3 : Nat) : Prop where
  map : mapIs w' r (kvsR b1 b2 b3)
  c1 : w'.cell? ⟨b1, 0, none⟩ = some (.func (.func 130) #[] #[])
  c2 : w'.cell? ⟨b2, 0, none⟩ = some (.func (.func 131) #[] #[])
  c3 : w'.cell? ⟨b3, 0, none⟩ = some (.func (.func 104) #[] #[])
  bel : Below w.heap.size w w'
theorem cell_grown {w w' : World} {r b : Nat} {v : Value} (h : w.cell? ⟨b, 0, none⟩ = some v) (hg : w.grownBy w' (some r)) (hr : b ≠ r) (hb : b < w.heap.size) : w'.cell? ⟨b, 0, none⟩ = some v := by
  unfold World.cell? at *
  have : w'.heap[b]? = w.heap[b]? := hg.block b hb (fun e => hr (by injection e))
  rw [this]; exact h
/-- the same while the map grows -/
structure RdP (w W : World) (r b1 b2 b3 : Nat) (kvs : List (ByteArray × Value)) : Prop where
  map : mapIs W r kvs
  c1 : W.cell? ⟨b1, 0, none⟩ = some (.func (.func 130) #[] #[])
  c2 : W.cell? ⟨b2, 0, none⟩ = some (.func (.func 131) #[] #[])
  c3 : W.cell? ⟨b3, 0, none⟩ = some (.func (.func 104) #[] #[])
  bel : Below w.heap.size w W
  n1 : b1 < r
  n2 : b2 < r
  n3 : b3 < r
  hr : w.heap.size ≤ r
theorem RdP.step {w W W' : World} {r b1 b2 b3 : Nat} {kvs kvs' : List (ByteArray × Value)} (h : RdP w W r b1 b2 b3 kvs) (hm : mapIs W' r kvs') (hg : W.grownBy W' (some r)) : RdP w W' r b1 b2 b3 kvs' := by
  have hl := mapIs_lt h.map
  have h1 := h.n1
  have h2 := h.n2
  have h3 := h.n3
  exact ⟨hm, cell_grown h.c1 hg (by omega) (by omega), cell_grown h.c2 hg (by omega) (by omega), cell_grown h.c3 hg (by omega) (by omega), Below_map h.bel h.hr hg h.bel.size, h.n1, h.n2, h.n3, h.hr⟩
theorem RdP.start {w w1 w2 w3 : World} (hc1 : w1.cell? ⟨w.heap.size, 0, none⟩ = some (.func (.func 130) #[] #[])) (hc2 : w2.cell? ⟨w1.heap.size, 0, none⟩ = some (.func (.func 131) #[] #[])) (hc3 : w3.cell? ⟨w2.heap.size, 0, none⟩ = some (.func (.func 104) #[] #[]))
    (hb1 : Below w.heap.size w w1) (hb2 : Below w1.heap.size w1 w2) (hb3 : Below w2.heap.size w2 w3) (z1 : w.heap.size < w1.heap.size) (z2 : w1.heap.size < w2.heap.size) (z3 : w2.heap.size < w3.heap.size) :
    RdP w (w3.alloc (.map #[] 0)) w3.heap.size w.heap.size w1.heap.size w2.heap.size [] := by
  have tb : Below w.heap.size w w3 := (hb1.trans (hb2.mono hb1.size)).trans (hb3.mono (by omega))
  have ha : Below w3.heap.size w3 (w3.alloc (.map #[] 0)) := (Below.refl _ _).alloc (Nat.le_refl _) _
  exact ⟨mapIs_new w3, cell_later ha (cell_later hb3 (cell_later hb2 hc1)), cell_later ha (cell_later hb3 hc2), cell_later ha hc3, tb.trans (ha.mono (by omega)), by omega, by omega, by omega, by omega⟩
def RdR (w : World) (e : Ending) (w' : World) : Prop := ∃ r b1 b2 b3, e = .returned (.map (some r)) ∧ RdIs w w' r b1 b2 b3
theorem RdP.fin {w W : World} {r b1 b2 b3 : Nat} (h : RdP w W r b1 b2 b3 (kvsR b1 b2 b3)) : RdR w (.returned (.map (some r))) W := ⟨r, b1, b2, b3, rfl, h.map, h.c1, h.c2, h.c3, h.bel⟩
set_option maxHeartbeats 2000000 in
set_option maxRecDepth 100000 in
theorem readers_any (w : World) : Calls Tryz.prog 101 #[] w (RdR w) := by
  have tb := Below.refl w.heap.size w
  have hmm := @run_makeMap Tryz.prog
  go_enter Tryz.func101, Tryz.ntmps101
  go_wp2_with (first
    | (go_at_call 103; (with_reducible refine (bytewise_any 130 _).mono ?_); rintro e w1 ⟨rfl, hc1, hb1, hz1⟩)
    | (go_at_call 103; (with_reducible refine (bytewise_any 131 _).mono ?_); rintro e w2 ⟨rfl, hc2, hb2, hz2⟩)
    | (go_at_call 103; (with_reducible refine (bytewise_any 104 _).mono ?_); rintro e w3 ⟨rfl, hc3, hb3, hz3⟩; have hp := RdP.start hc1 hc2 hc3 hb1 hb2 hb3 hz1 hz2 hz3)
    | (refine wpList_insert_map _ rfl (.tmp 7) _ _ _ rfl _ _ Tryz.underlying99 Tryz.underlying9 _ _ rfl hp.map _ rfl (by kernel_rfl) ?_; intro w4 hm4 hg4; have hp := hp.step hm4 hg4; clear hm4 hg4))
  go_ret
  exact hp.fin
end Go.Proofs.YtnclbbgdfaeilaaGreatDoor
namespace Go.Proofs.YtnclbbgdfaeilaaGreatDoor
open Go.RowKit Pk U8 Cs

def DecIs (l : List UInt8) (w : World) (e : Ending) (w' : World) : Prop := (∃ b, e = .returned (.tuple #[.string ⟨l.toArray⟩, .bool b])) ∧ Below w.heap.size w w'
theorem zeroF (w : World) : (zeroValue 23).run Tryz.prog w = .ok .nilFunc w := by kernel_rfl
theorem byteF1 (s : ByteArray) (b : Nat) (w : World) (hc : w.cell? ⟨b, 0, none⟩ = some (.func (.func 130) #[] #[])) (hs : s.size ≤ 3000000) : Calls Tryz.prog 132 #[.string s, .pointer (some ⟨b, 0, none⟩)] w fun e w' => e = .returned (.string ⟨(decB asc s.data.toList).toArray⟩) ∧ Below w.heap.size w w' := byteA s _ w hc hs
theorem eqNil (w : World) : (binOp .eql 23 .nilFunc .nilFunc).run Tryz.prog w = .ok (.bool true) w := by kernel_rfl
theorem eqClos (b : Nat) (w : World) : (binOp .eql 23 (.func (.func 132) #[] #[.pointer (some ⟨b, 0, none⟩)]) .nilFunc).run Tryz.prog w = .ok (.bool false) w := by kernel_rfl
theorem eqRep (w : World) : (binOp .eql 23 (.func (.func 12) #[] #[]) .nilFunc).run Tryz.prog w = .ok (.bool false) w := by kernel_rfl
set_option maxHeartbeats 4000000 in
set_option maxRecDepth 100000 in
theorem decodeP_any (name s : ByteArray) (w : World) (hT : Tabs w) (hn : name.size ≤ 3000000) (hs : s.size ≤ 3000000) : Calls Tryz.prog 71 #[.string name, .string s] w (DecIs (decCS name.data.toList s.data.toList) w) := by
  have hsm := fun w => smallP_any name w hn
  have hg := get_kind name.data.toList
  obtain ⟨N, hN⟩ : ∃ N : ByteArray, N = ⟨(name.data.toList.map Su.lowc).toArray⟩ := ⟨_, rfl⟩
  rw [← hN] at hsm hg
  have hrp := fun w' (hb : Below w.heap.size w w') => repairP_any s w' (hT.later hb) (by omega)
  have hA := fun w' b hc => byteA s ⟨b, 0, none⟩ w' hc hs
  have hL := fun w' b hc => byteL s ⟨b, 0, none⟩ w' hc hs
  have hW := fun w' b hc => byteW s ⟨b, 0, none⟩ w' hc hs
  have hk := kindL_le name.data.toList
  have hz := zeroF
  have hq0 := eqNil
  have hq1 := eqClos
  have hq2 := eqRep
  unfold decCS
  obtain ⟨k, hkk⟩ : ∃ k, k = kindL name.data.toList := ⟨_, rfl⟩
  rw [← hkk] at hk hg ⊢
  have HS := Lib.hid hsm
  have HG := Lib.hid hg
  have HRP := Lib.hid hrp
  have HA := Lib.hid hA
  have HL := Lib.hid hL
  have HW := Lib.hid hW
  have HZ := Lib.hid hz
  have tb := Below.refl w.heap.size w
  clear hsm hg hrp hA hL hW hz hN hkk hT
  have HB := Lib.hid (fun (fn : Nat) (w : World) => bytewise_any fn w)
  unfold closV at HB
  rcases (show k = 0 ∨ k = 1 ∨ k = 2 ∨ k = 3 ∨ k = 4 by omega) with rfl | rfl | rfl | rfl | rfl
  · have hG : Hid (∀ b1 b2 b3, mapGet N .nilFunc (kvsR b1 b2 b3) = .nilFunc) := fun b1 b2 b3 => HG.out b1 b2 b3
    have hd : Hid (decK 0 s.data.toList = decB win s.data.toList) := rfl
    rw [hd.out]
    clear HG hd
    go_enter Tryz.func71, Tryz.ntmps71
    go_wp2_with (first
      | (go_at_call 101; (with_reducible refine (readers_any _).mono ?_); rintro e w1 ⟨r, b1, b2, b3, rfl, hr⟩; have tb := hr.bel)
      | (go_at_call 102; (with_reducible refine (HS.out _).mono ?_); rintro e w2 ⟨rfl, hb2⟩; have tb := tb.trans (hb2.mono tb.size); have hmp := mapIs_below hr.map hb2 (mapIs_lt hr.map); have hcc := cell_later hb2 hr.c1)
      | (refine wpList_lookup_map _ rfl (.tmp 7) (.tmp 9) _ rfl _ _ Tryz.underlying99 Tryz.underlying9 _ _ rfl hmp _ rfl _ (HZ.out _) ?_; rw [hG.out])
      | (go_at_call 103; (with_reducible refine (HB.out 104 _).mono ?_); rintro e w3 ⟨rfl, hc3, hb3, hz3⟩; have tb := tb.trans (hb3.mono tb.size))
      | (go_at_call 132; (with_reducible refine (HW.out _ _ hc3).mono ?_); rintro e w4 ⟨rfl, hb4⟩; have tb := tb.trans (hb4.mono tb.size)))
    go_ret2
    exact ⟨⟨_, rfl⟩, tb⟩
  · have hG : Hid (∀ b1 b2 b3, mapGet N .nilFunc (kvsR b1 b2 b3) = .func (.func 132) #[] #[.pointer (some ⟨b1, 0, none⟩)]) := fun b1 b2 b3 => HG.out b1 b2 b3
    have hd : Hid (decK 1 s.data.toList = decB asc s.data.toList) := rfl
    rw [hd.out]
    clear HG hd
    go_enter Tryz.func71, Tryz.ntmps71
    go_wp2_with (first
      | (go_at_call 101; (with_reducible refine (readers_any _).mono ?_); rintro e w1 ⟨r, b1, b2, b3, rfl, hr⟩; have tb := hr.bel)
      | (go_at_call 102; (with_reducible refine (HS.out _).mono ?_); rintro e w2 ⟨rfl, hb2⟩; have tb := tb.trans (hb2.mono tb.size); have hmp := mapIs_below hr.map hb2 (mapIs_lt hr.map); have hcc := cell_later hb2 hr.c1)
      | (refine wpList_lookup_map _ rfl (.tmp 7) (.tmp 9) _ rfl _ _ Tryz.underlying99 Tryz.underlying9 _ _ rfl hmp _ rfl _ (HZ.out _) ?_; rw [hG.out])
      | (go_at_call 132; (with_reducible refine (HA.out _ _ hcc).mono ?_); rintro e w4 ⟨rfl, hb4⟩; have tb := tb.trans (hb4.mono tb.size)))
    go_ret2
    exact ⟨⟨_, rfl⟩, tb⟩
  · have hG : Hid (∀ b1 b2 b3, mapGet N .nilFunc (kvsR b1 b2 b3) = .func (.func 12) #[] #[]) := fun b1 b2 b3 => HG.out b1 b2 b3
    have hd : Hid (decK 2 s.data.toList = repairL s.data.toList) := rfl
    rw [hd.out]
    clear HG hd
    go_enter Tryz.func71, Tryz.ntmps71
    go_wp2_with (first
      | (go_at_call 101; (with_reducible refine (readers_any _).mono ?_); rintro e w1 ⟨r, b1, b2, b3, rfl, hr⟩; have tb := hr.bel)
      | (go_at_call 102; (with_reducible refine (HS.out _).mono ?_); rintro e w2 ⟨rfl, hb2⟩; have tb := tb.trans (hb2.mono tb.size); have hmp := mapIs_below hr.map hb2 (mapIs_lt hr.map); have hcc := cell_later hb2 hr.c1)
      | (refine wpList_lookup_map _ rfl (.tmp 7) (.tmp 9) _ rfl _ _ Tryz.underlying99 Tryz.underlying9 _ _ rfl hmp _ rfl _ (HZ.out _) ?_; rw [hG.out])
      | (go_at_call 12; (with_reducible refine (HRP.out _ tb).mono ?_); rintro e w4 ⟨rfl, hb4⟩; have tb := tb.trans (hb4.mono tb.size)))
    go_ret2
    exact ⟨⟨_, rfl⟩, tb⟩
  · have hG : Hid (∀ b1 b2 b3, mapGet N .nilFunc (kvsR b1 b2 b3) = .func (.func 132) #[] #[.pointer (some ⟨b2, 0, none⟩)]) := fun b1 b2 b3 => HG.out b1 b2 b3
    have hd : Hid (decK 3 s.data.toList = decB lat s.data.toList) := rfl
    rw [hd.out]
    clear HG hd
    go_enter Tryz.func71, Tryz.ntmps71
    go_wp2_with (first
      | (go_at_call 101; (with_reducible refine (readers_any _).mono ?_); rintro e w1 ⟨r, b1, b2, b3, rfl, hr⟩; have tb := hr.bel)
      | (go_at_call 102; (with_reducible refine (HS.out _).mono ?_); rintro e w2 ⟨rfl, hb2⟩; have tb := tb.trans (hb2.mono tb.size); have hmp := mapIs_below hr.map hb2 (mapIs_lt hr.map); have hcc := cell_later hb2 hr.c2)
      | (refine wpList_lookup_map _ rfl (.tmp 7) (.tmp 9) _ rfl _ _ Tryz.underlying99 Tryz.underlying9 _ _ rfl hmp _ rfl _ (HZ.out _) ?_; rw [hG.out])
      | (go_at_call 132; (with_reducible refine (HL.out _ _ hcc).mono ?_); rintro e w4 ⟨rfl, hb4⟩; have tb := tb.trans (hb4.mono tb.size)))
    go_ret2
    exact ⟨⟨_, rfl⟩, tb⟩
  · have hG : Hid (∀ b1 b2 b3, mapGet N .nilFunc (kvsR b1 b2 b3) = .func (.func 132) #[] #[.pointer (some ⟨b3, 0, none⟩)]) := fun b1 b2 b3 => HG.out b1 b2 b3
    have hd : Hid (decK 4 s.data.toList = decB win s.data.toList) := rfl
    rw [hd.out]
    clear HG hd
    go_enter Tryz.func71, Tryz.ntmps71
    go_wp2_with (first
      | (go_at_call 101; (with_reducible refine (readers_any _).mono ?_); rintro e w1 ⟨r, b1, b2, b3, rfl, hr⟩; have tb := hr.bel)
      | (go_at_call 102; (with_reducible refine (HS.out _).mono ?_); rintro e w2 ⟨rfl, hb2⟩; have tb := tb.trans (hb2.mono tb.size); have hmp := mapIs_below hr.map hb2 (mapIs_lt hr.map); have hcc := cell_later hb2 hr.c3)
      | (refine wpList_lookup_map _ rfl (.tmp 7) (.tmp 9) _ rfl _ _ Tryz.underlying99 Tryz.underlying9 _ _ rfl hmp _ rfl _ (HZ.out _) ?_; rw [hG.out])
      | (go_at_call 132; (with_reducible refine (HW.out _ _ hcc).mono ?_); rintro e w4 ⟨rfl, hb4⟩; have tb := tb.trans (hb4.mono tb.size)))
    go_ret2
    exact ⟨⟨_, rfl⟩, tb⟩
end Go.Proofs.YtnclbbgdfaeilaaGreatDoor
