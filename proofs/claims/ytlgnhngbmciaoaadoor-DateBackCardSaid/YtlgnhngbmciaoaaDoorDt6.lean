/- Walks: dates: plain. -/
import Derived.Test.YtlgnhngbmciaoaaDoorDt5
namespace Go.Proofs.YtlgnhngbmciaoaaDoor
open Go.RowKit Pk Dt

theorem b8_32 : b8 32 = 32 := rfl
theorem b8_low {c : UInt8} (h1 : 65 ≤ c.toNat) (h2 : c.toNat ≤ 90) : b8 ((c.toNat : Int) + 97 - 65) = c + 32 := by
  apply UInt8.toNat_inj.1
  have := b8_toNat ((c.toNat : Int) + 97 - 65) (by omega) (by omega)
  rw [UInt8.toNat_add]
  have e : (32 : UInt8).toNat = 32 := rfl
  rw [e]
  omega
def AccLen (s : ByteArray) (acc : List UInt8) (k : Nat) : Prop := acc.length = min k s.size
set_option maxHeartbeats 4000000 in
set_option maxRecDepth 100000 in
theorem plain_any (s : ByteArray) (w : World) (hs : s.size ≤ 100000000) : Calls Tryd.prog 20 #[.string s] w fun e w' => e = .returned (.string ⟨(plD 0 s.data.toList).toArray⟩) ∧ Below w.heap.size w w' := by
  obtain ⟨cp, w1, hcv, hrow, hb1, hz1⟩ := conv_row (P := Tryd.prog) w 9 56 5 s Tryd.underlying9 Tryd.underlying56 Tryd.underlying5
  have hst : Hid (PlIs s (plD 0 s.data.toList) [] 0 0) := by show _ = _; rw [tl_zero]; rfl
  have hXl := plD_length s.data.toList 0
  rw [dataL] at hXl
  have HXl := Lib.hid hXl
  clear hXl
  generalize plD 0 s.data.toList = X at *
  have hrow0 : rowF w1 w.heap.size 5 ([] ++ tl s 0) := by rw [List.nil_append, tl_zero]; exact hrow
  clear hrow
  go_enter Tryd.func20, Tryd.ntmps20
  go_wp2
  go_loopw [4, 5] (fun dv iv wr => ∃ (k n : Nat) (acc : List UInt8), dv = .int .i64 n ∧ iv = .int .i64 k ∧ n ≤ k ∧ k ≤ s.size + 1 ∧ Hid (AccLen s acc k) ∧ rowF wr w.heap.size 5 (acc ++ tl s k) ∧ Below w.heap.size w wr ∧ Hid (PlIs s X acc n k)) (fun _ iv _ => s.size + 1 - (intOf iv).toNat)
  case atStart => exact ⟨0, 0, [], by first | rfl | trivial, by first | rfl | trivial, by omega, by omega, by show _ = _; simp, hrow0, hb1, hst⟩
  case round =>
    clear hrow0 hcv hb1 hz1
    obtain ⟨k, n, acc, rfl, rfl, hnk, hk, hal, hrow, hbel, hrel⟩ := hrel
    have hsz := hbel.size
    by_cases hlt : k < s.size
    · have hl : acc.length = k := by have := hal.out; unfold AccLen at this; omega
      have hc := mid_cell hrow hl hlt
      have hf := rowF_frozen hrow k (by rw [mid_len hl (by omega)]; exact hlt)
      by_cases hesc : s[k].toNat = 92 ∧ 0 < n
      · obtain ⟨h92, hn⟩ := hesc
        have hc92 : s[k] = 92 := UInt8.toNat_inj.1 h92
        have q1 : ((s[k].toNat : Int) == 92) = true := beq_iff_eq.2 (by omega)
        have q2 : decide (0 < n) = true := decide_eq_true hn
        have hrow2 := rowF_stored hrow k 32 (by omega) (by omega)
        rw [mid_set hl hlt, b8_32] at hrow2
        have hbel2 : Below w.heap.size w (wr.setCell ⟨w.heap.size, k, none⟩ (.int .u8 32)) := hbel.setCell (Nat.le_refl _) _
        by_cases hlt2 : k + 1 < s.size
        · have hnx := pl_esc hrel hlt2 hc92 hn
          have hl1 : (acc ++ [32]).length = k + 1 := by rw [List.length_append, hl]; rfl
          have hc2 := mid_cell hrow2 hl1 hlt2
          have hf2 := rowF_frozen hrow2 (k + 1) (by rw [mid_len hl1 (by omega)]; exact hlt2)
          have hrow3 := rowF_stored hrow2 (k + 1) 32 (by omega) (by omega)
          rw [mid_set hl1 hlt2, b8_32] at hrow3
          have hbel3 : Below w.heap.size w ((wr.setCell ⟨w.heap.size, k, none⟩ (.int .u8 32)).setCell ⟨w.heap.size, k + 1, none⟩ (.int .u8 32)) := hbel2.setCell (Nat.le_refl _) _
          have hl2 : Hid (AccLen s (acc ++ [32] ++ [32]) (k + 1 + 1)) := by show _ = _; rw [List.length_append, hl1]; simp; omega
          clear hrow hrow2 hrel hl hl1 hc92 h92 hal
          go_wp2
          go_roundw
          case rel => exact ⟨k + 1 + 1, n, _, rfl, by go_num, by omega, by omega, hl2, hrow3, hbel3, hnx⟩
          case measure => simp [intOf]; omega
        · have hnx := pl_esc0 hrel hlt hlt2 hc92 hn
          have hl2 : Hid (AccLen s (acc ++ [32]) (k + 1 + 1)) := by show _ = _; rw [List.length_append, hl]; simp; omega
          have hrow3 : rowF (wr.setCell ⟨w.heap.size, k, none⟩ (.int .u8 32)) w.heap.size 5 (acc ++ [32] ++ tl s (k + 1 + 1)) := by
            rw [tl_end s (k + 1) (by omega)] at hrow2
            rw [tl_end s (k + 1 + 1) (by omega)]; exact hrow2
          clear hrow hrow2 hrel hl hc92 h92 hal
          go_wp2
          go_roundw
          case rel => exact ⟨k + 1 + 1, n, _, rfl, by go_num, by omega, by omega, hl2, hrow3, hbel2, hnx⟩
          case measure => simp [intOf]; omega
      · have hch : ¬ (s[k] = 92 ∧ 0 < n) := fun ⟨a, b⟩ => hesc ⟨by rw [a]; rfl, b⟩
        have hnx := pl_one hrel hlt hch
        have hkeep := hrow
        rw [mid_keep (acc := acc) hlt] at hkeep
        clear hal
        generalize s[k] = c at *
        have hcb := c.toNat_lt
        have hq : (((c.toNat : Int) == 92) = false) ∨ (((c.toNat : Int) == 92) = true ∧ decide (0 < n) = false) := by
          by_cases h : c.toNat = 92
          · exact .inr ⟨beq_iff_eq.2 (by omega), decide_eq_false (fun h2 => hesc ⟨h, h2⟩)⟩
          · exact .inl (beq_eq_false_iff_ne.2 (by omega))
        by_cases h40 : c = 40
        · have o1 : outP n c = 32 := by unfold outP; rw [if_pos h40]
          have o2 : depP n c = n + 1 := by unfold depP; rw [if_pos h40]
          rw [o1, o2] at hnx
          have q0 : ((c.toNat : Int) == 92) = false := by rw [h40]; rfl
          have q1 : ((c.toNat : Int) == 40) = true := by rw [h40]; rfl
          clear o1 o2 h40 hq
          have hrow2 := rowF_stored hrow k 32 (by omega) (by omega)
          rw [mid_set hl hlt, b8_32] at hrow2
          have hbel2 : Below w.heap.size w (wr.setCell ⟨w.heap.size, k, none⟩ (.int .u8 (32))) := hbel.setCell (Nat.le_refl _) _
          have hl2 : Hid (AccLen s (acc ++ [32]) (k + 1)) := by show _ = _; rw [List.length_append, hl]; simp; omega
          clear hrow hrel hl hesc hch hkeep
          go_wp2
          go_roundw
          case rel => exact ⟨k + 1, n + 1, _, by go_num, by go_num, by omega, by omega, hl2, hrow2, hbel2, hnx⟩
          case measure => simp [intOf]; omega
        · have q1 : ((c.toNat : Int) == 40) = false := beq_eq_false_iff_ne.2 (fun e => h40 (UInt8.toNat_inj.1 (by show _ = 40; omega)))
          by_cases hn : 0 < n
          · have q2 : decide (0 < n) = true := decide_eq_true hn
            have o1 : outP n c = 32 := by unfold outP; rw [if_neg h40, if_pos hn]
            have q0 : ((c.toNat : Int) == 92) = false := by
              rcases hq with h | ⟨_, h⟩
              · exact h
              · rw [q2] at h; cases h
            by_cases h41 : c = 41
            · have o2 : depP n c = n - 1 := by unfold depP; rw [if_neg h40, if_pos hn, if_pos h41]
              have q3 : ((c.toNat : Int) == 41) = true := by rw [h41]; rfl
              rw [o1, o2] at hnx
              clear o1 o2 h40 h41 hq
              have hrow2 := rowF_stored hrow k 32 (by omega) (by omega)
              rw [mid_set hl hlt, b8_32] at hrow2
              have hbel2 : Below w.heap.size w (wr.setCell ⟨w.heap.size, k, none⟩ (.int .u8 (32))) := hbel.setCell (Nat.le_refl _) _
              have hl2 : Hid (AccLen s (acc ++ [32]) (k + 1)) := by show _ = _; rw [List.length_append, hl]; simp; omega
              clear hrow hrel hl hesc hch hkeep
              go_wp2
              go_roundw
              case rel => exact ⟨k + 1, n - 1, _, by rw [show ((n - 1 : Nat) : Int) = (n : Int) - 1 by omega], by go_num, by omega, by omega, hl2, hrow2, hbel2, hnx⟩
              case measure => simp [intOf]; omega
            · have o2 : depP n c = n := by unfold depP; rw [if_neg h40, if_pos hn, if_neg h41]
              have q3 : ((c.toNat : Int) == 41) = false := beq_eq_false_iff_ne.2 (fun e => h41 (UInt8.toNat_inj.1 (by show _ = 41; omega)))
              rw [o1, o2] at hnx
              clear o1 o2 h40 h41 hq
              have hrow2 := rowF_stored hrow k 32 (by omega) (by omega)
              rw [mid_set hl hlt, b8_32] at hrow2
              have hbel2 : Below w.heap.size w (wr.setCell ⟨w.heap.size, k, none⟩ (.int .u8 (32))) := hbel.setCell (Nat.le_refl _) _
              have hl2 : Hid (AccLen s (acc ++ [32]) (k + 1)) := by show _ = _; rw [List.length_append, hl]; simp; omega
              clear hrow hrel hl hesc hch hkeep
              go_wp2
              go_roundw
              case rel => exact ⟨k + 1, n, _, rfl, by go_num, by omega, by omega, hl2, hrow2, hbel2, hnx⟩
              case measure => simp [intOf]; omega
          · obtain rfl : n = 0 := by omega
            have q2 : decide (0 < (0 : Nat)) = false := rfl
            have o2 : depP 0 c = 0 := by unfold depP; rw [if_neg h40, if_neg hn]
            by_cases h44 : c = 44
            · have o1 : outP 0 c = 32 := by unfold outP; rw [if_neg h40, if_neg hn, if_pos h44]
              have q0 : ((c.toNat : Int) == 92) = false := by rw [h44]; rfl
              have q3 : ((c.toNat : Int) == 44) = true := by rw [h44]; rfl
              rw [o1, o2] at hnx
              clear o1 o2 h40 h44 hq
              have hrow2 := rowF_stored hrow k 32 (by omega) (by omega)
              rw [mid_set hl hlt, b8_32] at hrow2
              have hbel2 : Below w.heap.size w (wr.setCell ⟨w.heap.size, k, none⟩ (.int .u8 (32))) := hbel.setCell (Nat.le_refl _) _
              have hl2 : Hid (AccLen s (acc ++ [32]) (k + 1)) := by show _ = _; rw [List.length_append, hl]; simp; omega
              clear hrow hrel hl hesc hch hkeep
              go_wp2
              go_roundw
              case rel => exact ⟨k + 1, 0, _, rfl, by go_num, by omega, by omega, hl2, hrow2, hbel2, hnx⟩
              case measure => simp [intOf]; omega
            · have q3 : ((c.toNat : Int) == 44) = false := beq_eq_false_iff_ne.2 (fun e => h44 (UInt8.toNat_inj.1 (by show _ = 44; omega)))
              by_cases hcap : 65 ≤ c.toNat ∧ c.toNat ≤ 90
              · obtain ⟨c1, c2⟩ := hcap
                have o1 : outP 0 c = c + 32 := by unfold outP; rw [if_neg h40, if_neg hn, if_neg h44, if_pos ⟨c1, c2⟩]
                have q0 : ((c.toNat : Int) == 92) = false := beq_eq_false_iff_ne.2 (by omega)
                rw [o1, o2] at hnx
                clear o1 o2 h40 h44 hq
                have hrow2 := rowF_stored hrow k ((c.toNat : Int) + 97 - 65) (by omega) (by omega)
                rw [mid_set hl hlt, b8_low c1 c2] at hrow2
                have hbel2 : Below w.heap.size w (wr.setCell ⟨w.heap.size, k, none⟩ (.int .u8 (((c.toNat : Int) + 97 - 65)))) := hbel.setCell (Nat.le_refl _) _
                have hl2 : Hid (AccLen s (acc ++ [c + 32]) (k + 1)) := by show _ = _; rw [List.length_append, hl]; simp; omega
                clear hrow hrel hl hesc hch hkeep
                go_wp2
                go_roundw
                case rel => exact ⟨k + 1, 0, _, rfl, by go_num, by omega, by omega, hl2, hrow2, hbel2, hnx⟩
                case measure => simp [intOf]; omega
              · have o1 : outP 0 c = c := by unfold outP; rw [if_neg h40, if_neg hn, if_neg h44, if_neg hcap]
                rw [o1, o2] at hnx
                have hrow2 : rowF wr w.heap.size 5 (acc ++ [c] ++ tl s (k + 1)) := hkeep
                have hl2 : Hid (AccLen s (acc ++ [c]) (k + 1)) := by show _ = _; rw [List.length_append, hl]; simp; omega
                clear o1 o2 h40 h44 hrow hrel hl hesc hch hkeep
                by_cases c1 : 65 ≤ c.toNat
                · have c2 : ¬ c.toNat ≤ 90 := fun h => hcap ⟨c1, h⟩
                  clear hcap
                  rcases hq with q0 | ⟨q0, -⟩
                  · go_wp2
                    go_roundw
                    case rel => exact ⟨k + 1, 0, _, rfl, by go_num, by omega, by omega, hl2, hrow2, hbel, hnx⟩
                    case measure => simp [intOf]; omega
                  · go_wp2
                    go_roundw
                    case rel => exact ⟨k + 1, 0, _, rfl, by go_num, by omega, by omega, hl2, hrow2, hbel, hnx⟩
                    case measure => simp [intOf]; omega
                · have q0 : ((c.toNat : Int) == 92) = false := beq_eq_false_iff_ne.2 (by omega)
                  clear hcap hq
                  go_wp2
                  go_roundw
                  case rel => exact ⟨k + 1, 0, _, rfl, by go_num, by omega, by omega, hl2, hrow2, hbel, hnx⟩
                  case measure => simp [intOf]; omega
    · have hX := Lib.hid (pl_end hrel (by omega))
      have hl : (acc ++ tl s k).length = s.size := by
        have := hal.out; unfold AccLen at this
        rw [List.length_append, tl_length]; omega
      have hcv := run_string_row (P := Tryd.prog) (ts := 9) (n := s.size) (cap := cp) bslD Tryd.underlying9 hrow hl
      rw [tl_end s k (by omega), List.append_nil] at hcv
      clear hrel hl hal hrow
      go_wp2
      go_ret
      rw [hX.out]
      exact ⟨rfl, hbel⟩
end Go.Proofs.YtlgnhngbmciaoaaDoor
