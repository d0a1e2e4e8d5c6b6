/- Walks: lex: lower, space; lines: Bare. -/
import Derived.Test.YtgimgkjggaijoaaGreatDoorLxW1
namespace Go.Proofs.YtgimgkjggaijoaaGreatDoor
open Go.RowKit Pk Lx

theorem bslX : ByteSl Tryz.prog 68 5 where
  ht := Tryz.underlying68
  he := Tryz.underlying5
  hi := info_parts (show (Tryz.prog.info? 5).map (fun i => (i.zero, i.size, i.bytes)) = some (some (.int .u8 0), 1, 1) by kernel_rfl)
/-- the first k bytes in lower case -/
def mixX (s : ByteArray) (k : Nat) : List UInt8 := (s.data.toList.take k).map lowC ++ s.data.toList.drop k
theorem mixX_length (s : ByteArray) (k : Nat) : (mixX s k).length = s.size := by
  have hl : s.data.toList.length = s.size := rfl
  unfold mixX; rw [List.length_append, List.length_map, List.length_take, List.length_drop]; omega
theorem mixX_at (s : ByteArray) (k : Nat) (h : k < s.size) (h2 : k < (mixX s k).length) : (mixX s k)[k] = s[k] := by
  have hl : s.data.toList.length = s.size := rfl
  have e : (mixX s k)[k]? = some s[k] := by
    unfold mixX
    rw [List.getElem?_append_right (by rw [List.length_map, List.length_take]; omega), List.length_map, List.length_take, List.getElem?_drop]
    have : k + (k - min k s.data.toList.length) = k := by omega
    rw [this, List.getElem?_eq_getElem (by omega)]
    rfl
  rw [List.getElem?_eq_getElem h2] at e
  exact Option.some.inj e
theorem mixX_step (s : ByteArray) (k : Nat) (h : k < s.size) : (mixX s k).set k (lowC s[k]) = mixX s (k + 1) := by
  have hl : s.data.toList.length = s.size := rfl
  unfold mixX
  rw [List.set_append_right _ _ (by rw [List.length_map, List.length_take]; omega)]
  have e : k - ((s.data.toList.take k).map lowC).length = 0 := by rw [List.length_map, List.length_take]; omega
  rw [e, List.drop_eq_getElem_cons (by omega), List.set_cons_zero, List.take_succ_eq_append_getElem (by omega), List.map_append]
  simp
  rfl
theorem mixX_same (s : ByteArray) (k : Nat) (h : k < s.size) (hl : lowC s[k] = s[k]) : mixX s k = mixX s (k + 1) := by
  rw [← mixX_step s k h, hl]
  have h2 : k < (mixX s k).length := by rw [mixX_length]; exact h
  have := mixX_at s k h h2
  rw [← this]
  exact (List.set_getElem_self h2).symm
theorem mixX_zero (s : ByteArray) : mixX s 0 = s.data.toList := by unfold mixX; simp
theorem mixX_end (s : ByteArray) : mixX s s.size = lowL s.data.toList := by
  unfold mixX lowL
  have hl : s.data.toList.length = s.size := rfl
  rw [List.take_of_length_le (by omega), List.drop_eq_nil_of_le (by omega), List.append_nil]
theorem low_b8X {c : UInt8} (h1 : 65 ≤ c.toNat) (h2 : c.toNat ≤ 90) : b8 ((c.toNat : Int) + 32) = lowC c := by
  unfold lowC
  rw [if_pos ⟨h1, h2⟩]
  apply UInt8.toNat_inj.1
  have := b8_toNat ((c.toNat : Int) + 32) (by omega) (by omega)
  rw [UInt8.toNat_add]
  have e : (32 : UInt8).toNat = 32 := rfl
  rw [e]
  omega
set_option maxHeartbeats 1000000 in
set_option maxRecDepth 100000 in
theorem lowerX_any (s : ByteArray) (w : World) (hs : s.size ≤ 100000000) : Calls Tryz.prog 40 #[.string s] w fun e w' => e = .returned (.string (toB (lowL s.data.toList))) ∧ Below w.heap.size w w' := by
  obtain ⟨cp, w1, hcv, hrow, hb1, hz1⟩ := conv_row (P := Tryz.prog) w 9 68 5 s Tryz.underlying9 Tryz.underlying68 Tryz.underlying5
  rw [← mixX_zero] at hrow
  go_enter Tryz.func40, Tryz.ntmps40
  go_wp2
  go_loopw [10] (fun i wr => ∃ (k : Nat), i = .int .i64 k ∧ rowF wr w.heap.size 5 (mixX s k) ∧ Below w.heap.size w wr ∧ k ≤ s.size) (fun i _ => s.size - (intOf i).toNat)
  case atStart => exact ⟨0, by first | rfl | trivial, hrow, hb1, by omega⟩
  case round =>
    clear hrow hcv hb1 hz1
    obtain ⟨k, rfl, hrow, hbel, hk⟩ := hrel
    have hsz := hbel.size
    by_cases hlt : k < s.size
    · have hc := rowF_cell hrow k (by rw [mixX_length]; exact hlt)
      rw [mixX_at s k hlt] at hc
      have hf := rowF_frozen hrow k (by rw [mixX_length]; exact hlt)
      have hb := s[k].toNat_lt
      by_cases h1 : 65 ≤ s[k].toNat
      · by_cases h2 : s[k].toNat ≤ 90
        · have hrow2 := rowF_stored hrow k ((s[k].toNat : Int) + 32) (by omega) (by omega)
          rw [low_b8X h1 h2, mixX_step s k hlt] at hrow2
          have hbel2 : Below w.heap.size w (wr.setCell ⟨w.heap.size, k, none⟩ (.int .u8 ((s[k].toNat : Int) + 32))) := hbel.setCell (Nat.le_refl _) _
          clear hrow
          go_wp2
          go_roundw
          case rel => exact ⟨k + 1, by go_num, hrow2, hbel2, by omega⟩
          case measure => simp [intOf]; omega
        · rw [mixX_same s k hlt (by unfold lowC; rw [if_neg (by omega)])] at hrow
          go_wp2
          go_roundw
          case rel => exact ⟨k + 1, by go_num, hrow, hbel, by omega⟩
          case measure => simp [intOf]; omega
      · rw [mixX_same s k hlt (by unfold lowC; rw [if_neg (by omega)])] at hrow
        go_wp2
        go_roundw
        case rel => exact ⟨k + 1, by go_num, hrow, hbel, by omega⟩
        case measure => simp [intOf]; omega
    · obtain rfl : k = s.size := by omega
      have hcv := run_string_row (P := Tryz.prog) (ts := 9) (n := s.size) (cap := cp) bslX Tryz.underlying9 hrow (mixX_length _ _)
      rw [mixX_end] at hcv
      clear hrow
      go_wp2
      go_ret
      exact ⟨rfl, hbel⟩
/-! space -/
theorem ibX0 (s : ByteArray) (x : UInt8) (w : World) : Calls Tryz.prog 36 #[.string s, .int .u8 x.toNat] w fun e w' => e = .returned (.int .i64 (Lib.indexByte s.data.toList x)) ∧ w = w' := by
  refine (Tryz.strings_IndexByte s x.toNat w).mono fun _ _ ⟨h1, h2⟩ => ⟨?_, h2.symm⟩
  rw [h1]; simp
theorem ibX10 (s : ByteArray) (w : World) : Calls Tryz.prog 36 #[.string s, .int .u8 10] w fun e w' => e = .returned (.int .i64 (Lib.indexByte s.data.toList 10)) ∧ w = w' := ibX0 s 10 w
theorem ibWs (x : UInt8) (w : World) : Calls Tryz.prog 36 #[.string ⟨#[32, 9, 13, 10]⟩, .int .u8 x.toNat] w fun e w' => e = .returned (.int .i64 (Lib.indexByte [32, 9, 13, 10] x)) ∧ w = w' := ibX0 ⟨#[32, 9, 13, 10]⟩ x w
theorem ws_ix (c : UInt8) : decide (0 ≤ Lib.indexByte [32, 9, 13, 10] c) = isWs c := by
  have e : ∀ n : Nat, n < 256 → decide (0 ≤ Lib.indexByte [32, 9, 13, 10] (UInt8.ofNat n)) = isWs (UInt8.ofNat n) := by decide +kernel
  have := e c.toNat c.toNat_lt
  simpa using this
theorem ixb_cons (c : UInt8) (r : List UInt8) : Lib.indexByte (c :: r) 10 = if c == 10 then 0 else if Lib.indexByte r 10 == -1 then -1 else Lib.indexByte r 10 + 1 := rfl
theorem lnL_cons (c : UInt8) (r : List UInt8) : lnL (c :: r) = if c = 10 then 1 else lnL r + 1 := rfl
theorem lnL_ix : ∀ (l : List UInt8), (lnL l : Int) = if 0 ≤ Lib.indexByte l 10 then Lib.indexByte l 10 + 1 else (l.length : Int)
  | [] => rfl
  | c :: r => by
    have ih := lnL_ix r
    have hg := Lib.indexByte_ge r 10
    rw [lnL_cons, ixb_cons, List.length_cons]
    by_cases hc : c = 10
    · have hcb : (c == 10) = true := by simp [hc]
      rw [hcb, if_pos hc]; simp
    · rw [if_neg hc, if_neg (show ¬ (c == 10) = true by simp [hc])]
      by_cases h1 : Lib.indexByte r 10 = -1
      · rw [if_pos (show (Lib.indexByte r 10 == -1) = true by rw [h1]; rfl), if_neg (by decide)]
        rw [if_neg (by omega)] at ih
        omega
      · rw [if_neg (show ¬ (Lib.indexByte r 10 == -1) = true by simpa using h1), if_pos (by omega)]
        rw [if_pos (by omega)] at ih
        omega
theorem pre_one (a : UInt8) : ∀ (l : List UInt8), Lib.hasPrefix l [a] = decide (l.head? = some a)
  | [] => rfl
  | c :: r => by
    show (a == c && true) = decide (some c = some a)
    rw [Bool.and_true, Bool.eq_iff_iff, beq_iff_eq, decide_eq_true_iff]
    exact ⟨fun h => by rw [h], fun h => (Option.some.inj h).symm⟩
theorem pre_two (a b : UInt8) : ∀ (l : List UInt8), Lib.hasPrefix l [a, b] = decide (l.head? = some a ∧ l.tail.head? = some b)
  | [] => (decide_eq_false (fun h => by cases h.1)).symm
  | c :: r => by
    have e : Lib.hasPrefix (c :: r) [a, b] = (a == c && Lib.hasPrefix r [b]) := rfl
    rw [e, pre_one, Bool.eq_iff_iff, Bool.and_eq_true, beq_iff_eq, decide_eq_true_iff, decide_eq_true_iff]
    exact ⟨fun h => ⟨by rw [h.1]; rfl, h.2⟩, fun h => ⟨(Option.some.inj h.1).symm, h.2⟩⟩
theorem cmL_cons (a : UInt8) (r : List UInt8) : cmL (a :: r) = if a = 42 ∧ r.head? = some 47 then some 0 else (cmL r).map (· + 1) := rfl
theorem cmL_ix : ∀ (l : List UInt8), Lib.index l [42, 47] = match cmL l with | none => -1 | some n => (n : Int)
  | [] => rfl
  | a :: r => by
    have ih := cmL_ix r
    have e0 : Lib.index (a :: r) [42, 47] = if Lib.hasPrefix (a :: r) [42, 47] then 0 else if Lib.index r [42, 47] == -1 then -1 else Lib.index r [42, 47] + 1 := rfl
    have e1 : decide ((a :: r).head? = some 42 ∧ (a :: r).tail.head? = some 47) = decide (a = 42 ∧ r.head? = some 47) := decide_eq_decide.2 ⟨fun h => ⟨Option.some.inj h.1, h.2⟩, fun h => ⟨by rw [h.1]; rfl, h.2⟩⟩
    rw [e0, pre_two, e1, cmL_cons]
    by_cases hc : a = 42 ∧ r.head? = some 47
    · rw [if_pos hc, decide_eq_true hc, if_pos rfl]; rfl
    · rw [if_neg hc, decide_eq_false hc, if_neg (by decide), ih]
      cases cmL r with
      | none => rfl
      | some n =>
        show (if ((n : Int) == -1) = true then (-1 : Int) else (n : Int) + 1) = _
        rw [if_neg (by simp)]; rfl
def OptInt (o : Option Nat) : Int := match o with | none => -1 | some n => (n : Int)
def OptRet (o : Option Nat) (w : World) (e : Ending) (w' : World) : Prop := e = .returned (.int .i64 (OptInt o)) ∧ Below w.heap.size w w'
set_option maxHeartbeats 1000000 in
set_option maxRecDepth 100000 in
theorem space_any (s : ByteArray) (w : World) (m : Int) (hm : w.cell? ⟨0, 0, none⟩ = some (.int .i64 m)) (hs : s.size ≤ 100000000) : Calls Tryz.prog 18 #[.string s] w (OptRet (spaceL s.data.toList) w) := by
  by_cases h0 : 0 < s.size
  · have hd := data_cons s h0
    have hne := neS h0
    have hW := ibWs s[0]
    have hix := ws_ix s[0]
    have hN := ibX10 s
    have hln := lnL_ix s.data.toList
    have hlg := Lib.indexByte_ge s.data.toList 10
    have hll := lnL_le s.data.toList
    rw [dataL] at hln hll
    have hP := fun w => Tryz.strings_HasPrefix s ⟨#[47, 42]⟩ w
    have e2 : Lib.hasPrefix s.data.toList (⟨#[47, 42]⟩ : ByteArray).data.toList = decide (s[0] = 47 ∧ (tl s 1).head? = some 42) := by
      show Lib.hasPrefix s.data.toList [47, 42] = _
      rw [pre_two, hd]
      exact decide_eq_decide.2 ⟨fun h => ⟨Option.some.inj h.1, h.2⟩, fun h => ⟨by rw [h.1]; rfl, h.2⟩⟩
    rw [e2] at hP
    have hsp : spaceL s.data.toList = if isWs s[0] = true then some 1 else if s[0] = 35 then some (lnL s.data.toList) else if s[0] = 47 ∧ (tl s 1).head? = some 42 then (cmL (tl s 1).tail).map (· + 4) else some 0 := by
      rw [hd, spaceL_cons]
    rw [hsp]
    generalize Lib.indexByte [32, 9, 13, 10] s[0] = iw at *
    generalize Lib.indexByte s.data.toList 10 = i1 at *
    generalize lnL s.data.toList = nl at *
    have HW := Lib.hid hW
    have HN := Lib.hid hN
    by_cases h1 : isWs s[0] = true
    · rw [if_pos h1]
      rw [h1] at hix
      clear hsp hW hN hP e2 h1 hln hlg hll hd
      go_enter Tryz.func18, Tryz.ntmps18
      go_wp2_with (go_at_call 36; (with_reducible refine (HW.out _).mono ?_); rintro e w1 ⟨rfl, rfl⟩)
      go_ret
      exact ⟨rfl, Below.refl _ _⟩
    · rw [if_neg h1]
      rw [Bool.not_eq_true] at h1
      rw [h1] at hix
      by_cases h2 : s[0] = 35
      · rw [if_pos h2]
        have q : ((s[0].toNat : Int) == 35) = true := (u8k 35 (by decide)).trans (decide_eq_true h2)
        by_cases h3 : 0 ≤ i1
        · rw [if_pos h3] at hln
          have HX := Lib.hid hln
          have hb : i1 < 100000000 := by omega
          clear hsp hW hN hP e2 h1 hln hlg hll hd h2
          go_enter Tryz.func18, Tryz.ntmps18
          go_wp2_with (first | (go_at_call 36; (with_reducible refine (HW.out _).mono ?_); rintro e w1 ⟨rfl, rfl⟩) | (go_at_call 36; (with_reducible refine (HN.out _).mono ?_); rintro e w1 ⟨rfl, rfl⟩))
          go_ret
          exact ⟨by show _ = Ending.returned (.int .i64 (nl : Int)); rw [HX.out]; rfl, Below.refl _ _⟩
        · rw [if_neg h3] at hln
          have HX := Lib.hid hln
          clear hsp hW hN hP e2 h1 hln hlg hll hd h2
          go_enter Tryz.func18, Tryz.ntmps18
          go_wp2_with (first | (go_at_call 36; (with_reducible refine (HW.out _).mono ?_); rintro e w1 ⟨rfl, rfl⟩) | (go_at_call 36; (with_reducible refine (HN.out _).mono ?_); rintro e w1 ⟨rfl, rfl⟩))
          go_ret
          exact ⟨by show _ = Ending.returned (.int .i64 (nl : Int)); rw [HX.out]; rfl, Below.refl _ _⟩
      · rw [if_neg h2]
        have q : ((s[0].toNat : Int) == 35) = false := (u8k 35 (by decide)).trans (decide_eq_false h2)
        by_cases h3 : s[0] = 47 ∧ (tl s 1).head? = some 42
        · rw [if_pos h3]
          rw [decide_eq_true h3] at hP
          have HP := Lib.hid hP
          have h2s : 2 ≤ s.size := by
            have := h3.2
            rcases Nat.lt_or_ge 1 s.size with h | h
            · omega
            · rw [tl_end s 1 (by omega)] at this; cases this
          have hI := fun w1 (hb : Below w.heap.size w w1) => Tryz.strings_Index (s.extract 2 s.size) ⟨#[42, 47]⟩ m w1 (by rw [ext_size]; omega) (cell_later hb hm)
          have e3 : Lib.index (s.extract 2 s.size).data.toList (⟨#[42, 47]⟩ : ByteArray).data.toList = OptInt (cmL (tl s 1).tail) := by
            show Lib.index (s.extract 2 s.size).data.toList [42, 47] = _
            rw [cmL_ix, ext_from]
            have : (tl s 1).tail = s.data.toList.drop 2 := by unfold tl; rw [← List.drop_one, List.drop_drop]
            rw [this]; rfl
          rw [e3] at hI
          have hbd : ∀ n, cmL (tl s 1).tail = some n → n ≤ 100000000 := fun n hn => by
            have := cmL_le _ n hn
            rw [List.length_tail, tl_length] at this
            omega
          have HI := Lib.hid (hI w (Below.refl _ _))
          have z1 : (0 : Int) ≤ 2 := by decide
          have z2 : (2 : Int) ≤ (s.size : Int) := by omega
          clear hI e3 hsp hW hN hP e2 h1 hln hlg hll hd h3
          cases hc : cmL (tl s 1).tail with
          | none =>
            rw [hc] at HI
            have HI : Hid (Calls Tryz.prog 38 #[.string (s.extract 2 s.size), .string ⟨#[42, 47]⟩] w fun e w' => e = .returned (.int .i64 (-1)) ∧ w' = w) := HI
            clear hbd hc
            go_enter Tryz.func18, Tryz.ntmps18
            go_wp2_with (first | (go_at_call 36; (with_reducible refine (HW.out _).mono ?_); rintro e w1 ⟨rfl, rfl⟩) | (go_at_call 37; (with_reducible refine (HP.out _).mono ?_); rintro e w1 ⟨rfl, rfl⟩) | (go_at_call 38; (with_reducible refine (HI.out).mono ?_); rintro e w1 ⟨rfl, rfl⟩))
            go_ret
            exact ⟨rfl, Below.refl _ _⟩
          | some n =>
            have hn := hbd n hc
            rw [hc] at HI
            have HI : Hid (Calls Tryz.prog 38 #[.string (s.extract 2 s.size), .string ⟨#[42, 47]⟩] w fun e w' => e = .returned (.int .i64 (n : Int)) ∧ w' = w) := HI
            clear hbd hc
            go_enter Tryz.func18, Tryz.ntmps18
            go_wp2_with (first | (go_at_call 36; (with_reducible refine (HW.out _).mono ?_); rintro e w1 ⟨rfl, rfl⟩) | (go_at_call 37; (with_reducible refine (HP.out _).mono ?_); rintro e w1 ⟨rfl, rfl⟩) | (go_at_call 38; (with_reducible refine (HI.out).mono ?_); rintro e w1 ⟨rfl, rfl⟩))
            go_ret
            exact ⟨rfl, Below.refl _ _⟩
        · rw [if_neg h3]
          rw [decide_eq_false h3] at hP
          have HP := Lib.hid hP
          clear hsp hW hN hP e2 h1 hln hlg hll hd h3 h2
          go_enter Tryz.func18, Tryz.ntmps18
          go_wp2_with (first | (go_at_call 36; (with_reducible refine (HW.out _).mono ?_); rintro e w1 ⟨rfl, rfl⟩) | (go_at_call 37; (with_reducible refine (HP.out _).mono ?_); rintro e w1 ⟨rfl, rfl⟩))
          go_ret
          exact ⟨rfl, Below.refl _ _⟩
  · have hn := nilS (S := s) (by omega)
    have : s.data.toList = [] := by rw [← Lib.toList_data]; exact hn
    rw [this]
    clear this
    go_enter Tryz.func18, Tryz.ntmps18
    go_wp2
    go_ret
    exact ⟨rfl, Below.refl _ _⟩
end Go.Proofs.YtgimgkjggaijoaaGreatDoor
