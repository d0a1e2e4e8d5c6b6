/- Walks: the reference of layer 6. -/
import Derived.Test.YtgkbjgmcgbnnaaaDoorRows
import Derived.Test.YtgkbjgmcgbnnaaaDoorKit
import Derived.Test.YtgkbjgmcgbnnaaaDoorSpec6
namespace Go.Proofs.YtgkbjgmcgbnnaaaDoor
open Go.RowKit Pk C6

theorem bsl : ByteSl Tryd.prog 25 5 where
  ht := Tryd.underlying25
  he := Tryd.underlying5
  hi := info_parts (show (Tryd.prog.info? 5).map (fun i => (i.zero, i.size, i.bytes)) = some (some (.int .u8 0), 1, 1) by kernel_rfl)

theorem ret_u8 {a b : Int} (h : a = b) : Ending.returned (.int .u8 a) = .returned (.int .u8 b) := by rw [h]

theorem digit_any (n : Int) (w : World) (h0 : 0 ≤ n) (h1 : n < 64) :
    Calls Tryd.prog 28 #[.int .i64 n] w fun e w' => e = .returned (.int .u8 (dig n).toNat) ∧ w = w' := by
  go_enter Tryd.func28, Tryd.ntmps28
  go_wp2
  · go_ret; exact ⟨ret_u8 (dig_lo n h0 ‹_›).symm, rfl⟩
  · go_ret; exact ⟨ret_u8 (dig_mid n ‹_› ‹_›).symm, rfl⟩
  · go_ret; exact ⟨ret_u8 (dig_num n ‹_› ‹_›).symm, rfl⟩
  · have h : (n == 62) = true := by assumption
    obtain rfl : n = 62 := by simpa using h
    go_ret; exact ⟨ret_u8 dig_62.symm, rfl⟩
  · have h : (n == 62) = false := by assumption
    have h' : n ≠ 62 := by simpa using h
    obtain rfl : n = 63 := by omega
    go_ret; exact ⟨ret_u8 dig_63.symm, rfl⟩

theorem sgR_3 {s : ByteArray} {k : Nat} {acc : List UInt8} {X : List UInt8} (h : Hid (acc ++ sgR (tl s k) = X)) (h0 : k < s.size) (h1 : k + 1 < s.size) (h2 : k + 2 < s.size) :
    Hid (acc ++ [dig (q3 s[k] s[k + 1] s[k + 2] / 262144), dig (q3 s[k] s[k + 1] s[k + 2] / 4096 % 64)] ++ [dig (q3 s[k] s[k + 1] s[k + 2] / 64 % 64)] ++ [dig (q3 s[k] s[k + 1] s[k + 2] % 64)] ++ sgR (tl s (k + 3)) = X) := by
  have e := h.out
  rw [tl_cons s k h0, tl_cons s (k + 1) h1, tl_cons s (k + 2) h2, sgR] at e
  show _ = _
  rw [← e]
  simp
theorem sgR_2 {s : ByteArray} {k : Nat} {acc : List UInt8} {X : List UInt8} (h : Hid (acc ++ sgR (tl s k) = X)) (h0 : k < s.size) (h1 : k + 1 < s.size) (h2 : ¬ k + 2 < s.size) :
    Hid (acc ++ [dig (q2 s[k] s[k + 1] / 262144), dig (q2 s[k] s[k + 1] / 4096 % 64)] ++ [dig (q2 s[k] s[k + 1] / 64 % 64)] ++ [61] ++ sgR (tl s (k + 3)) = X) := by
  have e := h.out
  rw [tl_cons s k h0, tl_cons s (k + 1) h1, tl_end s (k + 2) (by omega), sgR] at e
  show _ = _
  rw [← e, tl_end s (k + 3) (by omega)]
  simp [sgR]
theorem sgR_1 {s : ByteArray} {k : Nat} {acc : List UInt8} {X : List UInt8} (h : Hid (acc ++ sgR (tl s k) = X)) (h0 : k < s.size) (h1 : ¬ k + 1 < s.size) :
    Hid (acc ++ [dig (q1 s[k] / 262144), dig (q1 s[k] / 4096 % 64)] ++ [61] ++ [61] ++ sgR (tl s (k + 3)) = X) := by
  have e := h.out
  rw [tl_cons s k h0, tl_end s (k + 1) (by omega), sgR] at e
  show _ = _
  rw [← e, tl_end s (k + 3) (by omega)]
  simp [sgR]
theorem sgR_0 {s : ByteArray} {k : Nat} {acc : List UInt8} (h : Hid (acc ++ sgR (tl s k) = sgR (tl s 0))) (h0 : ¬ k < s.size) : acc = sgR s.data.toList := by
  have e := h.out
  rw [tl_end s k (by omega), tl_zero] at e
  simpa [sgR] using e

theorem brk_more {D acc X : List UInt8} {j : Nat} (h : Hid (acc ++ brk j (D.drop j) = X)) (h0 : j < D.length) (h1 : ¬ j + 1 = D.length) (h2 : ¬ j % 76 = 75) :
    Hid (acc ++ [D[j]] ++ brk (j + 1) (D.drop (j + 1)) = X) := by
  have e := h.out
  have h3 : j + 1 < D.length := by omega
  rw [List.drop_eq_getElem_cons h0, List.drop_eq_getElem_cons h3, brk, if_neg h2] at e
  show _ = _
  rw [← e, List.drop_eq_getElem_cons h3]
  simp
theorem brk_line {D acc X : List UInt8} {j : Nat} (h : Hid (acc ++ brk j (D.drop j) = X)) (h0 : j < D.length) (h1 : ¬ j + 1 = D.length) (h2 : j % 76 = 75) :
    Hid (acc ++ [D[j]] ++ [13, 10] ++ brk (j + 1) (D.drop (j + 1)) = X) := by
  have e := h.out
  have h3 : j + 1 < D.length := by omega
  rw [List.drop_eq_getElem_cons h0, List.drop_eq_getElem_cons h3, brk, if_pos h2] at e
  show _ = _
  rw [← e, List.drop_eq_getElem_cons h3]
  simp
theorem brk_last {D acc X : List UInt8} {j : Nat} (h : Hid (acc ++ brk j (D.drop j) = X)) (h0 : j < D.length) (h1 : j + 1 = D.length) :
    Hid (acc ++ [D[j]] ++ [13, 10] ++ brk (j + 1) (D.drop (j + 1)) = X) := by
  have e := h.out
  have h3 : D.drop (j + 1) = [] := List.drop_eq_nil_of_le (by omega)
  rw [List.drop_eq_getElem_cons h0, h3, brk] at e
  show _ = _
  rw [← e, h3]
  simp [brk]
theorem brk_end {D acc X : List UInt8} {j : Nat} (h : Hid (acc ++ brk j (D.drop j) = X)) (h0 : ¬ j < D.length) : acc = X := by
  have e := h.out
  rw [List.drop_eq_nil_of_le (by omega)] at e
  simpa [brk] using e

set_option maxHeartbeats 1000000 in
set_option maxRecDepth 100000 in
theorem b64R_any (s : ByteArray) (w : World) (hs : s.size ≤ 1000000) :
    Calls Tryd.prog 11 #[.string s] w fun e w' => e = .returned (.string ⟨(b64R s.data.toList).toArray⟩) ∧ Below w.heap.size w w' := by
  go_enter Tryd.func11, Tryd.ntmps11
  go_wp2
  go_loopw [3, 4] (fun v i wr => ∃ (k : Nat) (acc : List UInt8), i = .int .i64 k ∧ ownsB wr w.heap.size 5 v acc ∧ Below w.heap.size w wr ∧ k ≤ s.size + 3 ∧ acc.length ≤ 4 * k ∧ Hid (acc ++ sgR (tl s k) = sgR (tl s 0))) (fun _ i _ => s.size - (intOf i).toNat)
  case atStart => exact ⟨0, [], rfl, ownsB.nil _ _ _, Below.refl _ _, by omega, by simp, rfl⟩
  case round =>
    obtain ⟨k, acc, rfl, hown, hbel, hk, hal, hrel⟩ := hrel
    have hsz := hbel.size
    by_cases hlt : k < s.size
    · by_cases h1 : k + 1 < s.size
      · by_cases h2 : k + 2 < s.size
        · have b0 := s[k].toNat_lt
          have b1 := s[k + 1].toNat_lt
          have b2 := s[k + 2].toNat_lt
          go_wp2_with (first
            | (go_at_call 28; refine (digit_any _ _ (by omega) (by omega)).mono ?_; rintro e w' ⟨rfl, rfl⟩)
            | (at_builtin; refine append_bytes _ rfl (.tmp 45) (.tmp 53) bsl rfl w.heap.size _ _ rfl (hown.alloc _) ⟨_, 0, none⟩ 2 2 [_, _] rfl rfl (cells_new _ _ _) (by simp; omega) (by simp; omega) ?_; intro v1 w1 hown1 hg1; have hb1 := Below_grown (hbel.alloc hsz _) (hown.alloc _) hg1 (by simp; omega); have hz1 := hb1.size; clear hg1)
            | (at_builtin; refine append_bytes _ rfl (.tmp 57) (.tmp 62) bsl rfl w.heap.size _ _ rfl (hown1.alloc _) ⟨_, 0, none⟩ 1 1 [_] rfl rfl (cells_new _ _ _) (by simp; omega) (by simp; omega) ?_; intro v2 w2 hown2 hg2; have hb2 := Below_grown (hb1.alloc hz1 _) (hown1.alloc _) hg2 (by simp; omega); have hz2 := hb2.size; clear hg2)
            | (at_builtin; refine append_bytes _ rfl (.tmp 69) (.tmp 73) bsl rfl w.heap.size _ _ rfl (hown2.alloc _) ⟨_, 0, none⟩ 1 1 [_] rfl rfl (cells_new _ _ _) (by simp; omega) (by simp; omega) ?_; intro v3 w3 hown3 hg3; have hb3 := Below_grown (hb2.alloc hz2 _) (hown2.alloc _) hg3 (by simp; omega); have hz3 := hb3.size; clear hg3))
          go_roundw
          case rel => exact ⟨k + 3, _, by go_num, hown3, hb3, by omega, by simp; omega, sgR_3 hrel hlt h1 h2⟩
          case measure => simp [intOf]; omega
        · have b0 := s[k].toNat_lt
          have b1 := s[k + 1].toNat_lt
          go_wp2_with (first
            | (go_at_call 28; refine (digit_any _ _ (by omega) (by omega)).mono ?_; rintro e w' ⟨rfl, rfl⟩)
            | (at_builtin; refine append_bytes _ rfl (.tmp 45) (.tmp 53) bsl rfl w.heap.size _ _ rfl (hown.alloc _) ⟨_, 0, none⟩ 2 2 [_, _] rfl rfl (cells_new _ _ _) (by simp; omega) (by simp; omega) ?_; intro v1 w1 hown1 hg1; have hb1 := Below_grown (hbel.alloc hsz _) (hown.alloc _) hg1 (by simp; omega); have hz1 := hb1.size; clear hg1)
            | (at_builtin; refine append_bytes _ rfl (.tmp 57) (.tmp 62) bsl rfl w.heap.size _ _ rfl (hown1.alloc _) ⟨_, 0, none⟩ 1 1 [_] rfl rfl (cells_new _ _ _) (by simp; omega) (by simp; omega) ?_; intro v2 w2 hown2 hg2; have hb2 := Below_grown (hb1.alloc hz1 _) (hown1.alloc _) hg2 (by simp; omega); have hz2 := hb2.size; clear hg2)
            | (at_builtin; refine append_bytes _ rfl (.tmp 75) (.tmp 76) bsl rfl w.heap.size _ _ rfl (hown2.alloc _) ⟨_, 0, none⟩ 1 1 [61] rfl rfl (cells_new _ _ _) (by simp; omega) (by simp; omega) ?_; intro v3 w3 hown3 hg3; have hb3 := Below_grown (hb2.alloc hz2 _) (hown2.alloc _) hg3 (by simp; omega); have hz3 := hb3.size; clear hg3))
          go_roundw
          case rel => exact ⟨k + 3, _, by go_num, hown3, hb3, by omega, by simp; omega, sgR_2 hrel hlt h1 h2⟩
          case measure => simp [intOf]; omega
      · have b0 := s[k].toNat_lt
        go_wp2_with (first
            | (go_at_call 28; refine (digit_any _ _ (by omega) (by omega)).mono ?_; rintro e w' ⟨rfl, rfl⟩)
            | (at_builtin; refine append_bytes _ rfl (.tmp 45) (.tmp 53) bsl rfl w.heap.size _ _ rfl (hown.alloc _) ⟨_, 0, none⟩ 2 2 [_, _] rfl rfl (cells_new _ _ _) (by simp; omega) (by simp; omega) ?_; intro v1 w1 hown1 hg1; have hb1 := Below_grown (hbel.alloc hsz _) (hown.alloc _) hg1 (by simp; omega); have hz1 := hb1.size; clear hg1)
            | (at_builtin; refine append_bytes _ rfl (.tmp 64) (.tmp 65) bsl rfl w.heap.size _ _ rfl (hown1.alloc _) ⟨_, 0, none⟩ 1 1 [61] rfl rfl (cells_new _ _ _) (by simp; omega) (by simp; omega) ?_; intro v2 w2 hown2 hg2; have hb2 := Below_grown (hb1.alloc hz1 _) (hown1.alloc _) hg2 (by simp; omega); have hz2 := hb2.size; clear hg2)
            | (at_builtin; refine append_bytes _ rfl (.tmp 75) (.tmp 76) bsl rfl w.heap.size _ _ rfl (hown2.alloc _) ⟨_, 0, none⟩ 1 1 [61] rfl rfl (cells_new _ _ _) (by simp; omega) (by simp; omega) ?_; intro v3 w3 hown3 hg3; have hb3 := Below_grown (hb2.alloc hz2 _) (hown2.alloc _) hg3 (by simp; omega); have hz3 := hb3.size; clear hg3))
        go_roundw
        case rel => exact ⟨k + 3, _, by go_num, hown3, hb3, by omega, by simp; omega, sgR_1 hrel hlt h1⟩
        case measure => simp [intOf]; omega
    · obtain rfl := sgR_0 hrel hlt
      clear hrel
      have hl := sgR_length_le s.data.toList
      simp at hl
      have hfin : Hid (b64R s.data.toList = brk 0 (sgR s.data.toList)) := rfl
      generalize sgR s.data.toList = D at *
      obtain ⟨wo, rfl⟩ : ∃ wo : World, wo = wr := ⟨_, rfl⟩
      rcases hown.form with ⟨rfl, rfl⟩ | ⟨g, cap, rfl, hgB, hcap, hmax, hcell⟩
      · have hcv := run_string_owned (P := Tryd.prog) (ts := 9) bsl Tryd.underlying9 (ownsB.nil wo w.heap.size 5)
        go_wp2
        refine wp_loop_rounds 1 ?_
        rw [rounds_succ]
        go_wp2
        go_ret
        rw [hfin.out]
        exact ⟨rfl, hbel⟩
      · have hgl : g < wo.heap.size := (World.ownsRow.lt hown g rfl).2
        unfold maxLen at hmax
        go_wp2
        go_loopw [7, 8] (fun v i wr => ∃ (j : Nat) (acc : List UInt8), i = .int .i64 j ∧ ownsB wr wo.heap.size 5 v acc ∧ Below wo.heap.size wo wr ∧ j ≤ D.length ∧ acc.length ≤ 3 * j ∧ Hid (acc ++ brk j (D.drop j) = brk 0 D)) (fun _ i _ => D.length - (intOf i).toNat)
        case atStart => exact ⟨0, [], rfl, ownsB.nil _ _ _, Below.refl _ _, by omega, by simp, rfl⟩
        case round =>
          obtain ⟨j, acc, rfl, hown7, hbel7, hj, haj, hrel⟩ := hrel
          have hsz7 := hbel7.size
          by_cases hjl : j < D.length
          · have hcj : wr.cell? ⟨g, j, none⟩ = some (.int .u8 D[j].toNat) := (hbel7.cell (p := ⟨g, j, none⟩) hgl).trans (hcell j hjl)
            by_cases hlast : j + 1 = D.length
            · have H := Lib.hid hlast
              have hq1 : ((j : Int) + 1 == (D.length : Int)) = true := beq_iff_eq.2 (by omega)
              clear hlast
              go_wp2_with (first
                | (at_builtin; refine append_bytes _ rfl (.tmp 84) (.tmp 89) bsl rfl wo.heap.size _ _ rfl (hown7.alloc _) ⟨_, 0, none⟩ 1 1 [_] rfl rfl (cells_new _ _ _) (by simp; omega) (by simp; omega) ?_; intro v1 w1 hown1 hg1; have hb1 := Below_grown (hbel7.alloc hsz7 _) (hown7.alloc _) hg1 (by simp; omega); have hz1 := hb1.size; clear hg1)
                | (at_builtin; refine append_bytes _ rfl (.tmp 101) (.tmp 102) bsl rfl wo.heap.size _ _ rfl (hown1.alloc _) ⟨_, 0, none⟩ 2 2 [13, 10] rfl rfl (cells_new _ _ _) (by simp; omega) (by simp; omega) ?_; intro v2 w2 hown2 hg2; have hb2 := Below_grown (hb1.alloc hz1 _) (hown1.alloc _) hg2 (by simp; omega); have hz2 := hb2.size; clear hg2))
              all_goals
                go_roundw
                case rel => exact ⟨j + 1, _, by go_num, hown2, hb2, by omega, by simp; omega, brk_last hrel hjl H.out⟩
                case measure => simp [intOf]; omega
            · have hq1 : ((j : Int) + 1 == (D.length : Int)) = false := beq_eq_false_iff_ne.2 (by omega)
              by_cases hq : j % 76 = 75
              · have H := Lib.hid hq
                have hq2 : ((j : Int) % 76 == 75) = true := beq_iff_eq.2 (by omega)
                clear hq
                go_wp2_with (first
                  | (at_builtin; refine append_bytes _ rfl (.tmp 84) (.tmp 89) bsl rfl wo.heap.size _ _ rfl (hown7.alloc _) ⟨_, 0, none⟩ 1 1 [_] rfl rfl (cells_new _ _ _) (by simp; omega) (by simp; omega) ?_; intro v1 w1 hown1 hg1; have hb1 := Below_grown (hbel7.alloc hsz7 _) (hown7.alloc _) hg1 (by simp; omega); have hz1 := hb1.size; clear hg1)
                  | (at_builtin; refine append_bytes _ rfl (.tmp 101) (.tmp 102) bsl rfl wo.heap.size _ _ rfl (hown1.alloc _) ⟨_, 0, none⟩ 2 2 [13, 10] rfl rfl (cells_new _ _ _) (by simp; omega) (by simp; omega) ?_; intro v2 w2 hown2 hg2; have hb2 := Below_grown (hb1.alloc hz1 _) (hown1.alloc _) hg2 (by simp; omega); have hz2 := hb2.size; clear hg2))
                go_roundw
                case rel => exact ⟨j + 1, _, by go_num, hown2, hb2, by omega, by simp; omega, brk_line hrel hjl hlast H.out⟩
                case measure => simp [intOf]; omega
              · have hq2 : ((j : Int) % 76 == 75) = false := beq_eq_false_iff_ne.2 (by omega)
                go_wp2_with (at_builtin; refine append_bytes _ rfl (.tmp 84) (.tmp 89) bsl rfl wo.heap.size _ _ rfl (hown7.alloc _) ⟨_, 0, none⟩ 1 1 [_] rfl rfl (cells_new _ _ _) (by simp; omega) (by simp; omega) ?_; intro v1 w1 hown1 hg1; have hb1 := Below_grown (hbel7.alloc hsz7 _) (hown7.alloc _) hg1 (by simp; omega); have hz1 := hb1.size; clear hg1)
                go_roundw
                case rel => exact ⟨j + 1, _, by go_num, hown1, hb1, by omega, by simp; omega, brk_more hrel hjl hlast hq⟩
                case measure => simp [intOf]; omega
          · obtain rfl := brk_end hrel hjl
            have hcv := run_string_owned (P := Tryd.prog) (ts := 9) bsl Tryd.underlying9 hown7
            go_wp2
            go_ret
            rw [hfin.out]
            exact ⟨rfl, hbel.trans (hbel7.mono hbel.size)⟩
end Go.Proofs.YtgkbjgmcgbnnaaaDoor
