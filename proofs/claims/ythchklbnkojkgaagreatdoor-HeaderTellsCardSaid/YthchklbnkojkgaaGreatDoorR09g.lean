/- Walks: reference 09: colon, Field, Join. -/
import Derived.Test.YthchklbnkojkgaaGreatDoorR09f
import Derived.Test.YthchklbnkojkgaaGreatDoorSame9
namespace Go.Proofs.YthchklbnkojkgaaGreatDoor
open Go.RowKit Pk Hd

def colF : List UInt8 → Nat → Int
  | [], _ => -1
  | c :: r, k => if c = 58 then k else colF r (k + 1)
theorem colF_eq : ∀ (l : List UInt8) (k : Nat), colF l k = if l.contains 58 = true then ((k + (l.takeWhile fun c => !(c == 58)).length : Nat) : Int) else -1
  | [], _ => rfl
  | c :: r, k => by
    unfold colF
    by_cases hc : c = 58
    · subst hc
      rw [if_pos rfl, if_pos (by simp), List.takeWhile_cons, if_neg (by simp)]; simp
    · have h0 : ((58 : UInt8) == c) = false := beq_eq_false_iff_ne.2 (Ne.symm hc)
      have h1 : (c :: r).contains 58 = r.contains 58 := by rw [List.contains_cons, h0, Bool.false_or]
      have h2 : (c :: r).takeWhile (fun c => !(c == 58)) = c :: r.takeWhile (fun c => !(c == 58)) := by
        rw [List.takeWhile_cons, if_pos (by simpa using hc)]
      rw [if_neg hc, h1, h2, colF_eq r (k + 1), List.length_cons]
      by_cases hr : r.contains 58 = true
      · rw [if_pos hr, if_pos hr]; congr 1; omega
      · rw [if_neg hr, if_neg hr]
set_option maxRecDepth 100000 in
theorem rcolon_any (s : ByteArray) (w : World) (hs : s.size ≤ 100000000) : Calls Tryz.prog 62 #[.string s] w fun e w' => e = .returned (.int .i64 (colF s.data.toList 0)) ∧ w = w' := by
  obtain ⟨X, hX⟩ : ∃ X, X = colF s.data.toList 0 := ⟨_, rfl⟩
  have hst : Hid (colF (tl s 0) 0 = X) := by show _ = _; rw [tl_zero, hX]
  rw [← hX]
  clear hX
  go_enter Tryz.func62, Tryz.ntmps62
  go_wp2
  go_loop [3] (fun iv => ∃ k : Nat, k ≤ s.size ∧ iv = .int .i64 k ∧ Hid (colF (tl s k) k = X)) (fun iv => s.size - (intOf iv).toNat)
  case atStart => exact ⟨0, by omega, by first | rfl | trivial, hst⟩
  case round =>
    clear hst
    obtain ⟨k, hk, rfl, hrel⟩ := hrel
    by_cases hlt : k < s.size
    · have e := hrel.out
      have qc : ((s[k].toNat : Int) == 58) = decide (s[k] = 58) := u8k 58 (by decide)
      rw [tl_cons s k hlt, colF] at e
      by_cases hc : s[k] = 58
      · rw [if_pos hc] at e
        rw [decide_eq_true hc] at qc
        clear hrel hc
        subst e
        go_wp2
        go_ret
        exact ⟨rfl, rfl⟩
      · rw [if_neg hc] at e
        rw [decide_eq_false hc] at qc
        have hd := Lib.hid e
        clear hrel hc e
        go_wp2
        go_round
        case rel => exact ⟨k + 1, by omega, by go_num, hd⟩
        case measure => simp [intOf]; omega
    · have e := hrel.out
      rw [tl_end s k (by omega), colF] at e
      clear hrel
      subst e
      go_wp2
      go_ret
      exact ⟨rfl, rfl⟩
theorem trimR_snoc (l : List UInt8) (c : UInt8) (h : blk c = true) : trimR (l ++ [c]) = trimR l := by
  show ((l ++ [c]).reverse.dropWhile blk).reverse = (l.reverse.dropWhile blk).reverse
  rw [List.reverse_append, List.reverse_singleton, List.singleton_append, List.dropWhile_cons, if_pos h]
theorem take_snoc (s : ByteArray) (k : Nat) (h : k < s.size) : s.data.toList.take (k + 1) = s.data.toList.take k ++ [s[k]] := by
  rw [List.take_succ_eq_append_getElem (by rw [dataL]; exact h)]; rfl
theorem trim_back {s : ByteArray} {n : Nat} {T : List UInt8} (h : Hid (trimR (s.data.toList.take n) = T)) (h0 : 0 < n) (hn : n - 1 < s.size) (hb : blk s[n - 1] = true) : Hid (trimR (s.data.toList.take (n - 1)) = T) := by
  have e := h.out
  obtain ⟨k, rfl⟩ : ∃ k, n = k + 1 := ⟨n - 1, by omega⟩
  have hb : blk s[k] = true := hb
  rw [take_snoc s k hn, trimR_snoc _ _ hb] at e
  exact e
theorem trim_stay {s : ByteArray} {n : Nat} {T : List UInt8} (h : Hid (trimR (s.data.toList.take n) = T)) (h0 : 0 < n) (hn : n - 1 < s.size) (hb : blk s[n - 1] = false) : s.extract 0 n = toB T := by
  have e := h.out
  obtain ⟨k, rfl⟩ : ∃ k, n = k + 1 := ⟨n - 1, by omega⟩
  have hb : blk s[k] = false := hb
  rw [trimR_id (by rw [take_snoc s k hn, List.getLast?_append]; simp [hb])] at e
  rw [ext_to, e]; rfl
theorem trim_zero {s : ByteArray} {n : Nat} {T : List UInt8} (h : Hid (trimR (s.data.toList.take n) = T)) (h0 : ¬ 0 < n) : s.extract 0 n = toB T := by
  have e := h.out
  obtain rfl : n = 0 := by omega
  rw [ext_to, ← e, List.take_zero]; rfl
theorem bare_pre (l : List UInt8) : ∃ t, l = bareL l ++ t := by
  unfold bareL
  split
  · rename_i h
    obtain ⟨a, rfl⟩ := List.getLast?_eq_some_iff.1 h
    rw [List.dropLast_concat]
    unfold chop
    split
    · rename_i h2
      obtain ⟨b, rfl⟩ := List.getLast?_eq_some_iff.1 h2
      rw [List.dropLast_concat]
      exact ⟨[13] ++ [10], by simp⟩
    · exact ⟨_, rfl⟩
  · exact ⟨[], by simp⟩
set_option maxHeartbeats 4000000 in
set_option maxRecDepth 100000 in
theorem rfield_any (f m : ByteArray) (w : World) (hs : f.size + m.size ≤ 1000000) (hl : lineN (f.data.toList ++ m.data.toList) = f.size) :
    Calls Tryz.prog 43 #[.string f, .string m] w (FldIs (fieldL (f.data.toList ++ m.data.toList)) w) := by
  have hRs : (f ++ m : ByteArray).size = f.size + m.size := app_size _ _
  have hRd : (f ++ m : ByteArray).data.toList = f.data.toList ++ m.data.toList := by rw [ByteArray.data_append, Array.toList_append]
  rw [← hRd] at hl ⊢
  have htk : (f ++ m : ByteArray).data.toList.take f.size = f.data.toList := by rw [hRd, ← dataL, List.take_left]
  generalize hR : (f ++ m : ByteArray) = R at *
  have hfl : fieldL R.data.toList = if ((bareL f.data.toList).contains 58 && rightB (trimR ((bareL f.data.toList).takeWhile fun c => !(c == 58)))) = true then ⟨toB (trimR ((bareL f.data.toList).takeWhile fun c => !(c == 58))), toB (bareL (R.data.toList.drop (((bareL f.data.toList).takeWhile fun c => !(c == 58)).length + 1))), R, false⟩ else ⟨⟨#[]⟩, ⟨#[]⟩, R, true⟩ := by
    unfold fieldL colonB nameL
    rw [hl, htk, toB_back]; rfl
  rw [hfl]
  have hB := fun w => rbare_any f w (by omega)
  have hBl := bare_le f.data.toList
  rw [dataL] at hBl
  obtain ⟨t, ht⟩ := bare_pre f.data.toList
  obtain ⟨B, hBe, hBd, hBs⟩ := arrE (bareL f.data.toList)
  have hB2 : toB (bareL f.data.toList) = B := hBe.symm
  rw [hB2] at hB
  rw [← hBd] at ht ⊢
  have hC := fun w => rcolon_any B w (by omega)
  rw [colF_eq] at hC
  have htw := tw_all (fun c : UInt8 => !(c == 58)) B.data.toList
  have hpre : ∃ u, B.data.toList = (B.data.toList.takeWhile fun c => !(c == 58)) ++ u := ⟨_, (List.takeWhile_append_dropWhile ..).symm⟩
  have hlt : B.data.toList.contains 58 = true → (B.data.toList.takeWhile fun c => !(c == 58)).length < B.size := fun h => by
    rw [List.contains_iff_mem] at h
    have h1 := (List.takeWhile_sublist (fun c : UInt8 => !(c == 58)) (l := B.data.toList)).length_le
    rw [dataL] at h1
    by_cases he : (B.data.toList.takeWhile fun c => !(c == 58)).length = B.data.toList.length
    · exfalso
      have h2 : B.data.toList.takeWhile (fun c => !(c == 58)) = B.data.toList := (List.takeWhile_sublist _).eq_of_length he
      have := htw 58 (by rw [h2]; exact h)
      simp at this
    · rw [dataL] at he; omega
  generalize hN : (B.data.toList.takeWhile fun c => !(c == 58)) = N at *
  obtain ⟨u, hu⟩ := hpre
  have hNf : f.data.toList.take N.length = N := by rw [ht, hu, List.append_assoc, List.take_left]
  have hfz : f.size ≤ R.size := by omega
  have HB := Lib.hid hB
  cases hc : B.data.toList.contains 58 with
  | false =>
    rw [hc, if_neg (by decide)] at hC
    have HC := Lib.hid hC
    rw [Bool.false_and, if_neg (by decide)]
    clear hB hC hRd htk hfl hBl ht hBe hBd hBs hB2 htw hlt hN hu hNf hc hl
    go_enter Tryz.func43, Tryz.ntmps43
    go_wp2_with (first
      | (go_at_call 15; (with_reducible refine (HB.out _).mono ?_); rintro e w1 ⟨rfl, rfl⟩)
      | (go_at_call 62; (with_reducible refine (HC.out _).mono ?_); rintro e w1 ⟨rfl, rfl⟩))
    exact bodyPost_ret (v := .agg #[.string ⟨#[]⟩, .string ⟨#[]⟩, .string R, .bool true]) (by simp [results, go_sem]) rfl ⟨rfl, (Below.refl _ w).alloc (Nat.le_refl _) _⟩
  | true =>
    rw [hc, if_pos rfl, Nat.zero_add] at hC
    have HC := Lib.hid hC
    have hlt2 := hlt hc
    clear hlt
    rw [Bool.true_and]
    have z0 : (0 : Int) ≤ (N.length : Int) := by omega
    have y0 : decide ((N.length : Int) < 0) = false := decide_eq_false (by omega)
    have z1 : (N.length : Int) + 1 ≤ (R.size : Int) := by omega
    have z2 : (0 : Int) ≤ (N.length : Int) + 1 := by omega
    have z3 : ((N.length : Int) + 1).toNat = N.length + 1 := by omega
    have hst : Hid (trimR (f.data.toList.take N.length) = trimR N) := by show _ = _; rw [hNf]
    have hRt := fun w => rright_any (toB (trimR N)) w (by rw [← dataL, toB_data]; have := trimR_le N; omega)
    rw [toB_data] at hRt
    have hVd := ext_from R (N.length + 1)
    have hVs := ext_size R (N.length + 1) R.size
    generalize hV : R.extract (N.length + 1) R.size = V at hVd hVs
    have hBv := fun w => rbare_any V w (by omega)
    rw [hVd] at hBv
    have HBv := Lib.hid hBv
    generalize toB (bareL (R.data.toList.drop (N.length + 1))) = U at HBv ⊢
    have hBl2 := Lib.hid rblank_any
    have haf : N.length < f.size := by omega
    generalize trimR N = T at hst hRt ⊢
    generalize N.length = a at *
    cases hr : rightB T with
    | false =>
      rw [if_neg (by decide)]
      rw [hr] at hRt
      generalize hTT : toB T = TT at *
      have HRt := Lib.hid hRt
      have hRz : R.size ≤ 1000000 := by omega
      have hw : IntKind.i64.wrap ((a : Int) + 1) = (a : Int) + 1 := w64 rfl (by omega) (by omega)
      clear hB hC hRd htk hfl hBl ht hBe hBd hBs hB2 htw hN hu hNf hc hl hBv hVd hRt hr hRs hfz hVs
      go_enter Tryz.func43, Tryz.ntmps43
      go_wp2_with (first
        | (go_at_call 15; (with_reducible refine (HB.out _).mono ?_); rintro e w1 ⟨rfl, rfl⟩)
        | (go_at_call 62; (with_reducible refine (HC.out _).mono ?_); rintro e w1 ⟨rfl, rfl⟩))
      go_loop [7] (fun nv => ∃ n : Nat, nv = .int .i64 n ∧ n ≤ a ∧ Hid (trimR (f.data.toList.take n) = T)) (fun nv => (intOf nv).toNat)
      case atStart => exact ⟨a, by first | rfl | trivial, by omega, hst⟩
      case round =>
        clear hst
        obtain ⟨n, rfl, hn, hrel⟩ := hrel
        by_cases h0 : 0 < n
        · have hn1 : n - 1 < f.size := by omega
          have y1 : decide ((0 : Int) < (n : Int)) = true := decide_eq_true (by omega)
          have hb := fun w => hBl2.out f[n - 1] w
          cases hk : blk f[n - 1] with
          | true =>
            rw [hk] at hb
            have HBk := Lib.hid hb
            have hd := trim_back hrel h0 hn1 hk
            clear hb hk hrel
            go_wp2_with (go_at_call 19; (with_reducible refine (HBk.out _).mono ?_); rintro e w1 ⟨rfl, rfl⟩)
            go_round
            case rel => exact ⟨n - 1, by go_num, by omega, hd⟩
            case measure => simp [intOf]; omega
          | false =>
            rw [hk] at hb
            have HBk := Lib.hid hb
            have hx := trim_stay hrel h0 hn1 hk
            rw [hTT] at hx
            have x1 : (0 : Int) ≤ (n : Int) := by omega
            have x2 : (n : Int) ≤ (f.size : Int) := by omega
            clear hb hk hrel
            go_wp2_with (first
              | (go_at_call 19; (with_reducible refine (HBk.out _).mono ?_); rintro e w1 ⟨rfl, rfl⟩)
              | (go_at_call 15; (with_reducible refine (HBv.out _).mono ?_); rintro e w1 ⟨rfl, rfl⟩)
              | (go_at_call 32; (with_reducible refine (HRt.out _).mono ?_); rintro e w1 ⟨rfl, rfl⟩))
            exact bodyPost_ret (v := .agg #[.string ⟨#[]⟩, .string ⟨#[]⟩, .string R, .bool true]) (by simp [results, go_sem]) rfl ⟨rfl, (Below.refl _ w).alloc (Nat.le_refl _) _⟩
        · have hx := trim_zero hrel h0
          rw [hTT] at hx
          have y1 : decide ((0 : Int) < (n : Int)) = false := decide_eq_false (by omega)
          have x1 : (0 : Int) ≤ (n : Int) := by omega
          have x2 : (n : Int) ≤ (f.size : Int) := by omega
          clear hrel
          go_wp2_with (first
            | (go_at_call 15; (with_reducible refine (HBv.out _).mono ?_); rintro e w1 ⟨rfl, rfl⟩)
            | (go_at_call 32; (with_reducible refine (HRt.out _).mono ?_); rintro e w1 ⟨rfl, rfl⟩))
          exact bodyPost_ret (v := .agg #[.string ⟨#[]⟩, .string ⟨#[]⟩, .string R, .bool true]) (by simp [results, go_sem]) rfl ⟨rfl, (Below.refl _ w).alloc (Nat.le_refl _) _⟩
    | true =>
      rw [if_pos rfl]
      rw [hr] at hRt
      generalize hTT : toB T = TT at *
      have HRt := Lib.hid hRt
      have hRz : R.size ≤ 1000000 := by omega
      have hw : IntKind.i64.wrap ((a : Int) + 1) = (a : Int) + 1 := w64 rfl (by omega) (by omega)
      clear hB hC hRd htk hfl hBl ht hBe hBd hBs hB2 htw hN hu hNf hc hl hBv hVd hRt hr hRs hfz hVs
      go_enter Tryz.func43, Tryz.ntmps43
      go_wp2_with (first
        | (go_at_call 15; (with_reducible refine (HB.out _).mono ?_); rintro e w1 ⟨rfl, rfl⟩)
        | (go_at_call 62; (with_reducible refine (HC.out _).mono ?_); rintro e w1 ⟨rfl, rfl⟩))
      go_loop [7] (fun nv => ∃ n : Nat, nv = .int .i64 n ∧ n ≤ a ∧ Hid (trimR (f.data.toList.take n) = T)) (fun nv => (intOf nv).toNat)
      case atStart => exact ⟨a, by first | rfl | trivial, by omega, hst⟩
      case round =>
        clear hst
        obtain ⟨n, rfl, hn, hrel⟩ := hrel
        by_cases h0 : 0 < n
        · have hn1 : n - 1 < f.size := by omega
          have y1 : decide ((0 : Int) < (n : Int)) = true := decide_eq_true (by omega)
          have hb := fun w => hBl2.out f[n - 1] w
          cases hk : blk f[n - 1] with
          | true =>
            rw [hk] at hb
            have HBk := Lib.hid hb
            have hd := trim_back hrel h0 hn1 hk
            clear hb hk hrel
            go_wp2_with (go_at_call 19; (with_reducible refine (HBk.out _).mono ?_); rintro e w1 ⟨rfl, rfl⟩)
            go_round
            case rel => exact ⟨n - 1, by go_num, by omega, hd⟩
            case measure => simp [intOf]; omega
          | false =>
            rw [hk] at hb
            have HBk := Lib.hid hb
            have hx := trim_stay hrel h0 hn1 hk
            rw [hTT] at hx
            have x1 : (0 : Int) ≤ (n : Int) := by omega
            have x2 : (n : Int) ≤ (f.size : Int) := by omega
            clear hb hk hrel
            go_wp2_with (first
              | (go_at_call 19; (with_reducible refine (HBk.out _).mono ?_); rintro e w1 ⟨rfl, rfl⟩)
              | (go_at_call 15; (with_reducible refine (HBv.out _).mono ?_); rintro e w1 ⟨rfl, rfl⟩)
              | (go_at_call 32; (with_reducible refine (HRt.out _).mono ?_); rintro e w1 ⟨rfl, rfl⟩))
            go_region_with (go_at_call 15; (with_reducible refine (HBv.out _).mono ?_); rintro e w1 ⟨rfl, rfl⟩)
            go_wp2
            exact bodyPost_ret (v := .agg #[.string TT, .string U, .string R, .bool false]) (by simp [results, go_sem]) rfl ⟨rfl, by first | exact (Below.refl _ w).alloc (Nat.le_refl _) _ | exact ((Below.refl _ w).alloc (Nat.le_refl _) _).drew⟩
        · have hx := trim_zero hrel h0
          rw [hTT] at hx
          have y1 : decide ((0 : Int) < (n : Int)) = false := decide_eq_false (by omega)
          have x1 : (0 : Int) ≤ (n : Int) := by omega
          have x2 : (n : Int) ≤ (f.size : Int) := by omega
          clear hrel
          go_wp2_with (first
            | (go_at_call 15; (with_reducible refine (HBv.out _).mono ?_); rintro e w1 ⟨rfl, rfl⟩)
            | (go_at_call 32; (with_reducible refine (HRt.out _).mono ?_); rintro e w1 ⟨rfl, rfl⟩))
          go_region_with (go_at_call 15; (with_reducible refine (HBv.out _).mono ?_); rintro e w1 ⟨rfl, rfl⟩)
          go_wp2
          exact bodyPost_ret (v := .agg #[.string TT, .string U, .string R, .bool false]) (by simp [results, go_sem]) rfl ⟨rfl, by first | exact (Below.refl _ w).alloc (Nat.le_refl _) _ | exact ((Below.refl _ w).alloc (Nat.le_refl _) _).drew⟩
end Go.Proofs.YthchklbnkojkgaaGreatDoor
