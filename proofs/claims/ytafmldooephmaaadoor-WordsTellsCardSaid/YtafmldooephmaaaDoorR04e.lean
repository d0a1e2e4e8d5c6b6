/- Walks of the reference pouchref04: first, the walk. Printed by gen04e.py. -/
import Derived.Test.YtafmldooephmaaaDoorR04x
import Derived.Lib.Hide
import Derived.Outline
namespace Go.Proofs.YtafmldooephmaaaDoor
open Go.RowKit Pk U8 Su Fo

theorem at_get (s : ByteArray) (k : Nat) (h : k < s.size) : at' s.data.toList k = s[k].toNat := by
  unfold at'
  rw [List.getD_eq_getElem?_getD, List.getElem?_eq_getElem (by simpa using h)]
  rfl
theorem take_str (s : ByteArray) (m : Nat) (L : List UInt8) : ((⟨L.toArray⟩ : ByteArray).toList == (s.extract 0 m).toList) = decide (L = s.data.toList.take m) := by
  have e1 : (s.extract 0 m).toList = s.data.toList.take m := by rw [Lib.toList_data, ext_listS]; simp
  have e2 : (⟨L.toArray⟩ : ByteArray).toList = L := by rw [Lib.toList_data]
  rw [e1, e2]
  by_cases h : L = s.data.toList.take m
  · rw [decide_eq_true h, h]; simp
  · rw [decide_eq_false h]; exact beq_eq_false_iff_ne.2 h
theorem valF_succ (s : ByteArray) (m i : Nat) (h : i + 1 < s.size) : valF s.data.toList m (i + 1) = 64 * valF s.data.toList m i + (s[i + 1].toNat : Int) - 128 := by
  rw [valF, at_get s (i + 1) h]
theorem valF_zero (s : ByteArray) (m : Nat) (h : 0 < s.size) : valF s.data.toList m 0 = (s[0].toNat : Int) - off m := by
  rw [valF, at_get s 0 h]
theorem sca_of {N : Int} (h : signI N = true) : ∃ n : Nat, N = n ∧ Sca n := by
  unfold signI at h
  rw [decide_eq_true_eq] at h
  exact ⟨N.toNat, by omega, by unfold Sca; omega⟩
theorem sign_of {n : Nat} (h : Sca n) : signI (n : Int) = true := by
  unfold signI Sca at *
  rw [decide_eq_true_eq]; omega
theorem laid_run (w : World) (L : List UInt8) (h : L.length ≤ 4) : (convert 29 9 (.slice (some ⟨w.heap.size, 0, none⟩) L.length L.length)).run Tryd.prog (w.alloc (.cells (Lib.byteCells L).toArray 5)).drew = .ok (.string ⟨L.toArray⟩) (w.alloc (.cells (Lib.byteCells L).toArray 5)).drew :=
  run_string_owned bsl04 Tryd.underlying9 (ownsB.lit w L 5 _ rfl (by omega)).drew
theorem BelowN {B : Nat} {w w1 : World} (h : Below B w w1) (n : Nat) : Below B w (w1.drewN n) := by
  induction n with
  | zero => exact h
  | succ n ih => exact ih.drew
theorem firstV_end {s : ByteArray} {V : Int × Int × Bool} {m : Nat} (hV : Hid (firstV s.data.toList = V)) (h0 : 0 < s.size) (hrel : Hid (NoneB s.data.toList m)) (h : m = 5 ∨ s.size < m) : V = (65533, 1, false) := by
  have hl : s.data.toList ≠ [] := by
    intro e
    have e2 : s.data.toList.length = s.size := rfl
    rw [e] at e2
    have e3 : ([] : List UInt8).length = 0 := rfl
    omega
  rw [← hV.out]
  exact firstV_bad hl (hrel.out.bad hl h)
theorem firstV_got {s : ByteArray} {V : Int × Int × Bool} {n m : Nat} (hV : Hid (firstV s.data.toList = V)) (h0 : 0 < s.size) (hn : Sca n) (hm : m ≤ s.size) (he : Lib.encodeRune (n : Int) = s.data.toList.take m) : V = ((n : Int), (m : Int), true) := by
  have hl : s.data.toList ≠ [] := by
    intro e
    have e2 : s.data.toList.length = s.size := rfl
    rw [e] at e2
    have e3 : ([] : List UInt8).length = 0 := rfl
    omega
  rw [← hV.out]
  exact firstV_hit hl hn hm he
theorem round_no {s : ByteArray} {m : Nat} {N : Int} (hrel : Hid (NoneB s.data.toList m)) (hm : m ≤ s.size) (hN : N = valR s.data.toList m) (h : signI N = false) : Hid (NoneB s.data.toList (m + 1)) := by
  refine hrel.out.more hm fun n hn e => ?_
  rw [hN, e, sign_of hn] at h
  cases h
theorem round_miss {s : ByteArray} {m : Nat} {n : Nat} (hrel : Hid (NoneB s.data.toList m)) (hm : m ≤ s.size) (hN : (n : Int) = valR s.data.toList m) (h : Lib.encodeRune (n : Int) ≠ s.data.toList.take m) : Hid (NoneB s.data.toList (m + 1)) := by
  refine hrel.out.more hm fun n' _ e => ?_
  rw [← e, ← hN]; exact h
set_option maxHeartbeats 8000000 in
set_option maxRecDepth 100000 in
theorem firstR_some (s : ByteArray) (w : World) (hs : s.size ≤ 10000000) (h0 : 0 < s.size) (V : Int × Int × Bool) (hV : Hid (firstV s.data.toList = V)) :
    Calls Tryd.prog 53 #[.string s] w (FirstIs V w) := by
  have hsz0 : ((s.size : Int) == 0) = false := beq_eq_false_iff_ne.2 (by omega)
  go_enter Tryd.func53, Tryd.ntmps53
  go_wp2
  go_loopw [5] (fun i wr => ∃ (m : Nat), i = .int .i64 m ∧ 1 ≤ m ∧ m ≤ 5 ∧ m ≤ s.size + 1 ∧ Below w.heap.size w wr ∧ Hid (NoneB s.data.toList m)) (fun i _ => 5 - (intOf i).toNat)
  case atStart => exact ⟨1, by first | rfl | trivial, by omega, by omega, by omega, Below.refl _ _, fun q h1 h2 => absurd h1 (by omega)⟩
  case round =>
    obtain ⟨m, rfl, hm1, hm5, hms, hbel, hrel⟩ := hrel
    have hsz := hbel.size
    by_cases hlt : m ≤ 4 ∧ m ≤ s.size
    · obtain ⟨hm4, hms'⟩ := hlt
      have hm : m = 1 ∨ m = 2 ∨ m = 3 ∨ m = 4 := by omega
      rcases hm with rfl | rfl | rfl | rfl
      · have b0 := s[0].toNat_lt
        have d2 : decide ((1 : Int) ≤ s.size) = true := decide_eq_true (by omega)
        have E0 : Hid ((s[0].toNat : Int) = valF s.data.toList 1 0) := by show _ = _; rw [valF_zero s 1 h0]; show _ = _ - (0 : Int); omega
        go_wp2
        have tb := hbel
        go_loopw [6, 7] (fun nv i wi => ∃ (j : Nat) (N : Int), nv = .int .i64 N ∧ i = .int .i64 j ∧ 1 ≤ j ∧ j ≤ 1 ∧ -100000000 ≤ N ∧ N ≤ 100000000 ∧ Below w.heap.size w wi ∧ Hid (N = valF s.data.toList 1 (j - 1))) (fun _ i _ => 1 - (intOf i).toNat)
        case atStart => exact ⟨1, _, rfl, by first | rfl | trivial, by omega, by omega, by omega, by omega, tb, E0⟩
        case round =>
          obtain ⟨j, N, rfl, rfl, hj1, hj2, hN1, hN2, hbi, hNv⟩ := hrel
          by_cases hj : j < 1
          · exact absurd hj (by omega)
          · obtain rfl : j = 1 := by omega
            have hNv' : Hid (N = valR s.data.toList 1) := hNv
            have hzi := hbi.size
            cases hsg : signI N with
            | false =>
              have hd := round_no hrel hms' hNv'.out hsg
              have hS := fun w => sign_any N w
              rw [hsg] at hS
              have HS := Lib.hid hS
              clear hS hsg hrel hNv hNv' hV
              go_wp2_with fail
              go_quiet ((go_at_call 55; exact Calls.quiet_of_same ((HS.out _).mono fun _ _ h => ⟨h.1, h.2.symm⟩)))
              go_wp2
              go_roundw
              case rel => exact ⟨1 + 1, by first | rfl | trivial, by omega, by omega, by omega, BelowN hbi _, hd⟩
              case measure => simp [intOf]
            | true =>
              obtain ⟨n, hn, hsn⟩ := sca_of hsg
              subst hn
              have hS := fun w => sign_any (n : Int) w
              rw [hsg] at hS
              have HS := Lib.hid hS
              have hL := fun w => laid_any n w hsn
              unfold Laid at hL
              have hel := enc_len n
              obtain ⟨L, hL0⟩ : ∃ L, L = Lib.encodeRune (n : Int) := ⟨_, rfl⟩
              have htk := take_str s 1 L
              rw [← hL0] at hL hel
              have hcv := fun w => laid_run w L hel.2
              obtain ⟨A, hA⟩ : ∃ A : ByteArray, A = ⟨L.toArray⟩ := ⟨_, rfl⟩
              rw [← hA] at htk hcv
              clear hA
              have HL := Lib.hid hL
              have tb2 := Below.drew (Below.alloc hbi hzi (.cells (Lib.byteCells L).toArray 5))
              by_cases he : L = s.data.toList.take 1
              · rw [decide_eq_true he] at htk
                have hx := firstV_got hV h0 hsn hms' (hL0.symm.trans he)
                subst hx
                clear hS hsg hrel hNv hNv' hL hL0 he hV
                go_wp2_with fail
                go_region_with (first | (go_at_call 55; (with_reducible refine (HS.out _).mono ?_); rintro e w3 ⟨rfl, rfl⟩) | (go_at_call 46; (with_reducible refine (HL.out _).mono ?_); rintro e w3 ⟨rfl, rfl⟩))
                all_goals
                  go_wp2
                  go_ret3
                  exact ⟨rfl, tb2⟩
              · rw [decide_eq_false he] at htk
                have hd := round_miss hrel hms' hNv'.out (by rw [← hL0]; exact he)
                clear hS hsg hrel hNv hNv' hL hL0 he hV
                go_wp2_with fail
                go_region_with (first | (go_at_call 55; (with_reducible refine (HS.out _).mono ?_); rintro e w3 ⟨rfl, rfl⟩) | (go_at_call 46; (with_reducible refine (HL.out _).mono ?_); rintro e w3 ⟨rfl, rfl⟩))
                all_goals
                  go_wp2
                  go_roundw
                  case rel => exact ⟨1 + 1, by first | rfl | trivial, by omega, by omega, by omega, tb2, hd⟩
                  case measure => simp [intOf]
      · have b0 := s[0].toNat_lt
        have hi1 : IntKind.i64.wrap ((s[0].toNat : Int) - 192) = (s[0].toNat : Int) - 192 := w64 rfl (by omega) (by omega)
        have d2 : decide ((2 : Int) ≤ s.size) = true := decide_eq_true (by omega)
        have E0 : Hid ((s[0].toNat : Int) - 192 = valF s.data.toList 2 0) := by show _ = _; rw [valF_zero s 2 h0]; rfl
        go_wp2
        go_region
        go_wp2
        have tb := (hbel.alloc hsz (.cells #[Value.int .i64 0, .int .i64 0, .int .i64 192, .int .i64 224, .int .i64 240] 3)).drew
        go_loopw [6, 7] (fun nv i wi => ∃ (j : Nat) (N : Int), nv = .int .i64 N ∧ i = .int .i64 j ∧ 1 ≤ j ∧ j ≤ 2 ∧ -100000000 ≤ N ∧ N ≤ 100000000 ∧ Below w.heap.size w wi ∧ Hid (N = valF s.data.toList 2 (j - 1))) (fun _ i _ => 2 - (intOf i).toNat)
        case atStart => exact ⟨1, _, rfl, by first | rfl | trivial, by omega, by omega, by omega, by omega, tb, E0⟩
        case round =>
          obtain ⟨j, N, rfl, rfl, hj1, hj2, hN1, hN2, hbi, hNv⟩ := hrel
          by_cases hj : j < 2
          · have hjs : j < s.size := by omega
            have bj := s[j].toNat_lt
            have hd : Hid (64 * N + (s[j].toNat : Int) - 128 = valF s.data.toList 2 (j + 1 - 1)) := by
              show _ = _
              obtain ⟨q, rfl⟩ : ∃ q, j = q + 1 := ⟨j - 1, by omega⟩
              have := valF_succ s 2 q hjs
              rw [show q + 1 + 1 - 1 = q + 1 by omega, this, hNv.out]; rfl
            have hvb := val_bd s.data.toList 2 j (by omega)
            have hb2 : -100000000 ≤ 64 * N + (s[j].toNat : Int) - 128 ∧ 64 * N + (s[j].toNat : Int) - 128 ≤ 100000000 := by rw [hd.out]; exact hvb
            obtain ⟨hb3, hb4⟩ := hb2
            clear hNv hvb
            go_wp2
            go_roundw
            case rel => exact ⟨j + 1, _, rfl, by go_num, by omega, by omega, hb3, hb4, hbi, hd⟩
            case measure => simp [intOf]; omega
          · obtain rfl : j = 2 := by omega
            have hNv' : Hid (N = valR s.data.toList 2) := hNv
            have hzi := hbi.size
            cases hsg : signI N with
            | false =>
              have hd := round_no hrel hms' hNv'.out hsg
              have hS := fun w => sign_any N w
              rw [hsg] at hS
              have HS := Lib.hid hS
              clear hS hsg hrel hNv hNv' hV
              go_wp2_with fail
              go_quiet ((go_at_call 55; exact Calls.quiet_of_same ((HS.out _).mono fun _ _ h => ⟨h.1, h.2.symm⟩)))
              go_wp2
              go_roundw
              case rel => exact ⟨2 + 1, by first | rfl | trivial, by omega, by omega, by omega, BelowN hbi _, hd⟩
              case measure => simp [intOf]
            | true =>
              obtain ⟨n, hn, hsn⟩ := sca_of hsg
              subst hn
              have hS := fun w => sign_any (n : Int) w
              rw [hsg] at hS
              have HS := Lib.hid hS
              have hL := fun w => laid_any n w hsn
              unfold Laid at hL
              have hel := enc_len n
              obtain ⟨L, hL0⟩ : ∃ L, L = Lib.encodeRune (n : Int) := ⟨_, rfl⟩
              have htk := take_str s 2 L
              rw [← hL0] at hL hel
              have hcv := fun w => laid_run w L hel.2
              obtain ⟨A, hA⟩ : ∃ A : ByteArray, A = ⟨L.toArray⟩ := ⟨_, rfl⟩
              rw [← hA] at htk hcv
              clear hA
              have HL := Lib.hid hL
              have tb2 := Below.drew (Below.alloc hbi hzi (.cells (Lib.byteCells L).toArray 5))
              by_cases he : L = s.data.toList.take 2
              · rw [decide_eq_true he] at htk
                have hx := firstV_got hV h0 hsn hms' (hL0.symm.trans he)
                subst hx
                clear hS hsg hrel hNv hNv' hL hL0 he hV
                go_wp2_with fail
                go_region_with (first | (go_at_call 55; (with_reducible refine (HS.out _).mono ?_); rintro e w3 ⟨rfl, rfl⟩) | (go_at_call 46; (with_reducible refine (HL.out _).mono ?_); rintro e w3 ⟨rfl, rfl⟩))
                all_goals
                  go_wp2
                  go_ret3
                  exact ⟨rfl, tb2⟩
              · rw [decide_eq_false he] at htk
                have hd := round_miss hrel hms' hNv'.out (by rw [← hL0]; exact he)
                clear hS hsg hrel hNv hNv' hL hL0 he hV
                go_wp2_with fail
                go_region_with (first | (go_at_call 55; (with_reducible refine (HS.out _).mono ?_); rintro e w3 ⟨rfl, rfl⟩) | (go_at_call 46; (with_reducible refine (HL.out _).mono ?_); rintro e w3 ⟨rfl, rfl⟩))
                all_goals
                  go_wp2
                  go_roundw
                  case rel => exact ⟨2 + 1, by first | rfl | trivial, by omega, by omega, by omega, tb2, hd⟩
                  case measure => simp [intOf]
      · have b0 := s[0].toNat_lt
        have hi1 : IntKind.i64.wrap ((s[0].toNat : Int) - 224) = (s[0].toNat : Int) - 224 := w64 rfl (by omega) (by omega)
        have d2 : decide ((3 : Int) ≤ s.size) = true := decide_eq_true (by omega)
        have E0 : Hid ((s[0].toNat : Int) - 224 = valF s.data.toList 3 0) := by show _ = _; rw [valF_zero s 3 h0]; rfl
        go_wp2
        go_region
        go_wp2
        have tb := (hbel.alloc hsz (.cells #[Value.int .i64 0, .int .i64 0, .int .i64 192, .int .i64 224, .int .i64 240] 3)).drew
        go_loopw [6, 7] (fun nv i wi => ∃ (j : Nat) (N : Int), nv = .int .i64 N ∧ i = .int .i64 j ∧ 1 ≤ j ∧ j ≤ 3 ∧ -100000000 ≤ N ∧ N ≤ 100000000 ∧ Below w.heap.size w wi ∧ Hid (N = valF s.data.toList 3 (j - 1))) (fun _ i _ => 3 - (intOf i).toNat)
        case atStart => exact ⟨1, _, rfl, by first | rfl | trivial, by omega, by omega, by omega, by omega, tb, E0⟩
        case round =>
          obtain ⟨j, N, rfl, rfl, hj1, hj2, hN1, hN2, hbi, hNv⟩ := hrel
          by_cases hj : j < 3
          · have hjs : j < s.size := by omega
            have bj := s[j].toNat_lt
            have hd : Hid (64 * N + (s[j].toNat : Int) - 128 = valF s.data.toList 3 (j + 1 - 1)) := by
              show _ = _
              obtain ⟨q, rfl⟩ : ∃ q, j = q + 1 := ⟨j - 1, by omega⟩
              have := valF_succ s 3 q hjs
              rw [show q + 1 + 1 - 1 = q + 1 by omega, this, hNv.out]; rfl
            have hvb := val_bd s.data.toList 3 j (by omega)
            have hb2 : -100000000 ≤ 64 * N + (s[j].toNat : Int) - 128 ∧ 64 * N + (s[j].toNat : Int) - 128 ≤ 100000000 := by rw [hd.out]; exact hvb
            obtain ⟨hb3, hb4⟩ := hb2
            clear hNv hvb
            go_wp2
            go_roundw
            case rel => exact ⟨j + 1, _, rfl, by go_num, by omega, by omega, hb3, hb4, hbi, hd⟩
            case measure => simp [intOf]; omega
          · obtain rfl : j = 3 := by omega
            have hNv' : Hid (N = valR s.data.toList 3) := hNv
            have hzi := hbi.size
            cases hsg : signI N with
            | false =>
              have hd := round_no hrel hms' hNv'.out hsg
              have hS := fun w => sign_any N w
              rw [hsg] at hS
              have HS := Lib.hid hS
              clear hS hsg hrel hNv hNv' hV
              go_wp2_with fail
              go_quiet ((go_at_call 55; exact Calls.quiet_of_same ((HS.out _).mono fun _ _ h => ⟨h.1, h.2.symm⟩)))
              go_wp2
              go_roundw
              case rel => exact ⟨3 + 1, by first | rfl | trivial, by omega, by omega, by omega, BelowN hbi _, hd⟩
              case measure => simp [intOf]
            | true =>
              obtain ⟨n, hn, hsn⟩ := sca_of hsg
              subst hn
              have hS := fun w => sign_any (n : Int) w
              rw [hsg] at hS
              have HS := Lib.hid hS
              have hL := fun w => laid_any n w hsn
              unfold Laid at hL
              have hel := enc_len n
              obtain ⟨L, hL0⟩ : ∃ L, L = Lib.encodeRune (n : Int) := ⟨_, rfl⟩
              have htk := take_str s 3 L
              rw [← hL0] at hL hel
              have hcv := fun w => laid_run w L hel.2
              obtain ⟨A, hA⟩ : ∃ A : ByteArray, A = ⟨L.toArray⟩ := ⟨_, rfl⟩
              rw [← hA] at htk hcv
              clear hA
              have HL := Lib.hid hL
              have tb2 := Below.drew (Below.alloc hbi hzi (.cells (Lib.byteCells L).toArray 5))
              by_cases he : L = s.data.toList.take 3
              · rw [decide_eq_true he] at htk
                have hx := firstV_got hV h0 hsn hms' (hL0.symm.trans he)
                subst hx
                clear hS hsg hrel hNv hNv' hL hL0 he hV
                go_wp2_with fail
                go_region_with (first | (go_at_call 55; (with_reducible refine (HS.out _).mono ?_); rintro e w3 ⟨rfl, rfl⟩) | (go_at_call 46; (with_reducible refine (HL.out _).mono ?_); rintro e w3 ⟨rfl, rfl⟩))
                all_goals
                  go_wp2
                  go_ret3
                  exact ⟨rfl, tb2⟩
              · rw [decide_eq_false he] at htk
                have hd := round_miss hrel hms' hNv'.out (by rw [← hL0]; exact he)
                clear hS hsg hrel hNv hNv' hL hL0 he hV
                go_wp2_with fail
                go_region_with (first | (go_at_call 55; (with_reducible refine (HS.out _).mono ?_); rintro e w3 ⟨rfl, rfl⟩) | (go_at_call 46; (with_reducible refine (HL.out _).mono ?_); rintro e w3 ⟨rfl, rfl⟩))
                all_goals
                  go_wp2
                  go_roundw
                  case rel => exact ⟨3 + 1, by first | rfl | trivial, by omega, by omega, by omega, tb2, hd⟩
                  case measure => simp [intOf]
      · have b0 := s[0].toNat_lt
        have hi1 : IntKind.i64.wrap ((s[0].toNat : Int) - 240) = (s[0].toNat : Int) - 240 := w64 rfl (by omega) (by omega)
        have d2 : decide ((4 : Int) ≤ s.size) = true := decide_eq_true (by omega)
        have E0 : Hid ((s[0].toNat : Int) - 240 = valF s.data.toList 4 0) := by show _ = _; rw [valF_zero s 4 h0]; rfl
        go_wp2
        go_region
        go_wp2
        have tb := (hbel.alloc hsz (.cells #[Value.int .i64 0, .int .i64 0, .int .i64 192, .int .i64 224, .int .i64 240] 3)).drew
        go_loopw [6, 7] (fun nv i wi => ∃ (j : Nat) (N : Int), nv = .int .i64 N ∧ i = .int .i64 j ∧ 1 ≤ j ∧ j ≤ 4 ∧ -100000000 ≤ N ∧ N ≤ 100000000 ∧ Below w.heap.size w wi ∧ Hid (N = valF s.data.toList 4 (j - 1))) (fun _ i _ => 4 - (intOf i).toNat)
        case atStart => exact ⟨1, _, rfl, by first | rfl | trivial, by omega, by omega, by omega, by omega, tb, E0⟩
        case round =>
          obtain ⟨j, N, rfl, rfl, hj1, hj2, hN1, hN2, hbi, hNv⟩ := hrel
          by_cases hj : j < 4
          · have hjs : j < s.size := by omega
            have bj := s[j].toNat_lt
            have hd : Hid (64 * N + (s[j].toNat : Int) - 128 = valF s.data.toList 4 (j + 1 - 1)) := by
              show _ = _
              obtain ⟨q, rfl⟩ : ∃ q, j = q + 1 := ⟨j - 1, by omega⟩
              have := valF_succ s 4 q hjs
              rw [show q + 1 + 1 - 1 = q + 1 by omega, this, hNv.out]; rfl
            have hvb := val_bd s.data.toList 4 j (by omega)
            have hb2 : -100000000 ≤ 64 * N + (s[j].toNat : Int) - 128 ∧ 64 * N + (s[j].toNat : Int) - 128 ≤ 100000000 := by rw [hd.out]; exact hvb
            obtain ⟨hb3, hb4⟩ := hb2
            clear hNv hvb
            go_wp2
            go_roundw
            case rel => exact ⟨j + 1, _, rfl, by go_num, by omega, by omega, hb3, hb4, hbi, hd⟩
            case measure => simp [intOf]; omega
          · obtain rfl : j = 4 := by omega
            have hNv' : Hid (N = valR s.data.toList 4) := hNv
            have hzi := hbi.size
            cases hsg : signI N with
            | false =>
              have hd := round_no hrel hms' hNv'.out hsg
              have hS := fun w => sign_any N w
              rw [hsg] at hS
              have HS := Lib.hid hS
              clear hS hsg hrel hNv hNv' hV
              go_wp2_with fail
              go_quiet ((go_at_call 55; exact Calls.quiet_of_same ((HS.out _).mono fun _ _ h => ⟨h.1, h.2.symm⟩)))
              go_wp2
              go_roundw
              case rel => exact ⟨4 + 1, by first | rfl | trivial, by omega, by omega, by omega, BelowN hbi _, hd⟩
              case measure => simp [intOf]
            | true =>
              obtain ⟨n, hn, hsn⟩ := sca_of hsg
              subst hn
              have hS := fun w => sign_any (n : Int) w
              rw [hsg] at hS
              have HS := Lib.hid hS
              have hL := fun w => laid_any n w hsn
              unfold Laid at hL
              have hel := enc_len n
              obtain ⟨L, hL0⟩ : ∃ L, L = Lib.encodeRune (n : Int) := ⟨_, rfl⟩
              have htk := take_str s 4 L
              rw [← hL0] at hL hel
              have hcv := fun w => laid_run w L hel.2
              obtain ⟨A, hA⟩ : ∃ A : ByteArray, A = ⟨L.toArray⟩ := ⟨_, rfl⟩
              rw [← hA] at htk hcv
              clear hA
              have HL := Lib.hid hL
              have tb2 := Below.drew (Below.alloc hbi hzi (.cells (Lib.byteCells L).toArray 5))
              by_cases he : L = s.data.toList.take 4
              · rw [decide_eq_true he] at htk
                have hx := firstV_got hV h0 hsn hms' (hL0.symm.trans he)
                subst hx
                clear hS hsg hrel hNv hNv' hL hL0 he hV
                go_wp2_with fail
                go_region_with (first | (go_at_call 55; (with_reducible refine (HS.out _).mono ?_); rintro e w3 ⟨rfl, rfl⟩) | (go_at_call 46; (with_reducible refine (HL.out _).mono ?_); rintro e w3 ⟨rfl, rfl⟩))
                all_goals
                  go_wp2
                  go_ret3
                  exact ⟨rfl, tb2⟩
              · rw [decide_eq_false he] at htk
                have hd := round_miss hrel hms' hNv'.out (by rw [← hL0]; exact he)
                clear hS hsg hrel hNv hNv' hL hL0 he hV
                go_wp2_with fail
                go_region_with (first | (go_at_call 55; (with_reducible refine (HS.out _).mono ?_); rintro e w3 ⟨rfl, rfl⟩) | (go_at_call 46; (with_reducible refine (HL.out _).mono ?_); rintro e w3 ⟨rfl, rfl⟩))
                all_goals
                  go_wp2
                  go_roundw
                  case rel => exact ⟨4 + 1, by first | rfl | trivial, by omega, by omega, by omega, tb2, hd⟩
                  case measure => simp [intOf]
    · have hx := firstV_end hV h0 hrel (by omega)
      clear hrel hV
      subst hx
      by_cases hm4 : m ≤ 4
      · have g1 : ¬ ((m : Int) ≤ s.size) := by omega
        go_wp2
        go_ret3
        exact ⟨rfl, hbel⟩
      · go_wp2
        go_ret3
        exact ⟨rfl, hbel⟩
theorem firstR_any (s : ByteArray) (w : World) (hs : s.size ≤ 10000000) :
    Calls Tryd.prog 53 #[.string s] w (FirstIs (firstV s.data.toList) w) := by
  by_cases h0 : 0 < s.size
  · exact firstR_some s w hs h0 _ (Lib.hid rfl)
  · have hV : firstV s.data.toList = (0, 0, false) := by
      have : s.data.toList = [] := List.eq_nil_of_length_eq_zero (by show s.size = 0; omega)
      rw [this]; rfl
    have hz : s.size = 0 := by omega
    rw [hV]
    clear hV
    go_enter Tryd.func53, Tryd.ntmps53
    go_wp2
    go_ret3
    exact ⟨rfl, Below.refl _ _⟩
end Go.Proofs.YtafmldooephmaaaDoor
