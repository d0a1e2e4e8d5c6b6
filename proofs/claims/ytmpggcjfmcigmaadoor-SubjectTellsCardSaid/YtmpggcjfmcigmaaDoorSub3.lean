/- Walks: subject: end, wrap, answer. -/
import Derived.Test.YtmpggcjfmcigmaaDoorSub2
namespace Go.Proofs.YtmpggcjfmcigmaaDoor
open Go.RowKit Pk U8 Su

theorem st_ends (s : ByteArray) (N : Nat) (hN : N + 5 = s.size) : (stP fwdT (s.extract N s.size).data.toList).2 = endsF s.data.toList := by
  have e : (s.extract N s.size).data.toList = s.data.toList.drop N := by rw [ext_listS, List.take_of_length_le (by rw [List.length_drop]; exact Nat.le_refl _)]
  have hl : s.data.toList.length = s.size := rfl
  have hd : (s.data.toList.drop N).length = 5 := by rw [List.length_drop, hl]; omega
  have h5 : fwdT.length = 5 := rfl
  rw [e]
  unfold stP st endsF
  rw [hl, decide_eq_true (show 5 ≤ s.size by omega), show s.size - 5 = N by omega, h5, List.take_of_length_le (by omega)]
  by_cases h : (s.data.toList.drop N).map lowc = fwdT
  · rw [if_pos h, h]; rfl
  · rw [if_neg h]
    have : ((s.data.toList.drop N).map lowc == fwdT) = false := beq_eq_false_iff_ne.2 h
    rw [this]; rfl
theorem str_back (s : ByteArray) : (⟨s.data.toList.toArray⟩ : ByteArray) = s := by simp
theorem ext_take (s : ByteArray) (N : Nat) : (s.extract 0 N).data.toList = s.data.toList.take N := by rw [ext_listS]; rfl
set_option maxHeartbeats 1000000 in
theorem end_any (s : ByteArray) (w : World) (hs : s.size ≤ 100000000) : Calls Tryd.prog 29 #[.string s] w (PairIs (endP s.data.toList) w) := by
  have t1 := fun w => Tryd.strings_TrimRight_one s 32 (by decide) w (by omega)
  have et : Lib.trimRightB s.data.toList 32 = trimR s.data.toList := rfl
  rw [et] at t1
  by_cases htr : trimR s.data.toList = s.data.toList
  · rw [htr, str_back] at t1
    have T1 := Lib.hid t1
    by_cases h5 : s.size < 5
    · have hp : endP s.data.toList = (s.data.toList, false) := by
        unfold endP; rw [if_neg (by simp [htr]), if_neg (by rw [endsF_short _ (show s.data.toList.length < 5 from h5)]; decide)]
      rw [hp]
      have hfin := Lib.hid (pair_same s w false)
      have hlt : (s.size : Int) - 5 < 0 := by omega
      clear t1 et htr hp
      go_enter Tryd.func29, Tryd.ntmps29
      go_wp2_with (go_at_call 48; (with_reducible refine (T1.out _).mono ?_); rintro e w1 ⟨rfl, rfl⟩)
      go_ret2
      exact hfin.out
    · obtain ⟨N, hN⟩ : ∃ N : Nat, (s.size : Int) - 5 = (N : Int) := ⟨s.size - 5, by omega⟩
      have hN' : N + 5 = s.size := by omega
      have hse := st_ends s N hN'
      have hex := ext_take s N
      have c1 := fun w => starts_any (s.extract N s.size) ⟨#[40, 102, 119, 100, 41]⟩ w (by rw [ByteArray.size_extract]; omega) (by decide)
      have e1 : (⟨#[40, 102, 119, 100, 41]⟩ : ByteArray).data.toList = fwdT := rfl
      rw [e1] at c1
      unfold PairIs at c1
      rw [hse] at c1
      obtain ⟨X, hX⟩ : ∃ X : ByteArray, X = ⟨(stP fwdT (s.extract N s.size).data.toList).1.toArray⟩ := ⟨_, rfl⟩
      rw [← hX] at c1
      have hp : endP s.data.toList = if endsF s.data.toList = true then (s.data.toList.take (s.data.toList.length - 5), true) else (s.data.toList, false) := by
        unfold endP; rw [if_neg (by simp [htr])]
      rw [hp]
      have hlN : s.data.toList.length - 5 = N := by show s.size - 5 = N; omega
      rw [hlN]
      have hNle : N ≤ s.size := by omega
      cases hb : endsF s.data.toList with
      | true =>
        rw [if_pos rfl]
        rw [hb] at c1
        have C1 := Lib.hid c1
        have hfin : Hid (PairIs (s.data.toList.take N, true) w (.returned (.tuple #[.string (s.extract 0 N), .bool true])) w) := ret_pair hex rfl
        clear t1 et htr hp hse hex c1 e1 hX hlN hb hN' h5
        go_enter Tryd.func29, Tryd.ntmps29
        go_wp2_with (first
          | (go_at_call 48; (with_reducible refine (T1.out _).mono ?_); rintro e w1 ⟨rfl, rfl⟩)
          | (go_at_call 49; (with_reducible refine (C1.out _).mono ?_); rintro e w1 ⟨rfl, rfl⟩))
        go_ret2
        exact hfin.out
      | false =>
        rw [if_neg (by decide)]
        rw [hb] at c1
        have C1 := Lib.hid c1
        have hfin := Lib.hid (pair_same s w false)
        clear t1 et htr hp hse hex c1 e1 hX hlN hb hN' h5
        go_enter Tryd.func29, Tryd.ntmps29
        go_wp2_with (first
          | (go_at_call 48; (with_reducible refine (T1.out _).mono ?_); rintro e w1 ⟨rfl, rfl⟩)
          | (go_at_call 49; (with_reducible refine (C1.out _).mono ?_); rintro e w1 ⟨rfl, rfl⟩))
        go_ret2
        exact hfin.out
  · have hp : endP s.data.toList = (trimR s.data.toList, false) := by unfold endP; rw [if_pos htr]
    rw [hp]
    obtain ⟨T, hT, hTl, hTs⟩ := arrS (trimR s.data.toList)
    rw [← hT] at t1
    have T1 := Lib.hid t1
    have q1 : (!T.toList == s.toList) = true := by
      have : (T.toList == s.toList) = false := beq_eq_false_iff_ne.2 (by rw [Lib.toList_data, Lib.toList_data, hTl]; exact htr)
      rw [this]; rfl
    have hfin : Hid (PairIs (trimR s.data.toList, false) w (.returned (.tuple #[.string T, .bool false])) w) := ret_pair hTl rfl
    clear t1 et htr hp hT hTl hTs
    go_enter Tryd.func29, Tryd.ntmps29
    go_wp2_with (go_at_call 48; (with_reducible refine (T1.out _).mono ?_); rintro e w1 ⟨rfl, rfl⟩)
    go_ret2
    exact hfin.out
theorem suf93 (l : List UInt8) : Lib.hasSuffix l [93] = (l.getLast? == some 93) := by
  unfold Lib.hasSuffix
  rw [Bool.eq_iff_iff, List.isSuffixOf_iff_suffix, beq_iff_eq]
  constructor
  · rintro ⟨t, rfl⟩; simp
  · intro h
    rw [List.getLast?_eq_some_iff] at h
    obtain ⟨t, rfl⟩ := h
    exact ⟨t, rfl⟩
set_option maxHeartbeats 1000000 in
theorem wrap_any (s : ByteArray) (w : World) (hs : s.size ≤ 100000000) : Calls Tryd.prog 33 #[.string s] w (PairIs (wrapP s.data.toList) w) := by
  have c1 := fun w => starts_any s ⟨#[91, 102, 119, 100, 58]⟩ w hs (by decide)
  have e1 : (⟨#[91, 102, 119, 100, 58]⟩ : ByteArray).data.toList = fwdB := rfl
  rw [e1] at c1
  unfold PairIs stP at c1
  cases hst : st fwdB s.data.toList with
  | none =>
    rw [hst] at c1
    simp only [str_back] at c1
    have C1 := Lib.hid c1
    have hp : wrapP s.data.toList = (s.data.toList, false) := by unfold wrapP wrap; rw [hst]
    rw [hp]
    have hfin := Lib.hid (pair_same s w false)
    clear c1 e1 hp hst
    go_enter Tryd.func33, Tryd.ntmps33
    go_wp2_with (go_at_call 49; (with_reducible refine (C1.out _).mono ?_); rintro e w1 ⟨rfl, rfl⟩)
    go_ret2
    exact hfin.out
  | some t =>
    rw [hst] at c1
    obtain ⟨T, hT, hTl, hTs⟩ := arrS t
    simp only at c1
    rw [← hT] at c1
    have C1 := Lib.hid c1
    have hTle : T.size ≤ s.size := by
      have h1 := (st_some hst).2.1
      rw [hTs, h1, List.length_drop]; exact Nat.sub_le _ _
    have s1 := fun w => Tryd.strings_HasSuffix T ⟨#[93]⟩ w (by omega)
    have e2 : (⟨#[93]⟩ : ByteArray).data.toList = [93] := rfl
    rw [e2, suf93, hTl] at s1
    by_cases hl : t.getLast? = some 93
    · have hp : wrapP s.data.toList = (t.dropLast, true) := by unfold wrapP wrap; rw [hst]; simp only; rw [if_pos hl]
      rw [hp]
      rw [show (t.getLast? == some 93) = true from beq_iff_eq.2 hl] at s1
      have S1 := Lib.hid s1
      have hpos : 0 < T.size := by rw [hTs]; exact last_pos hl
      obtain ⟨N, hN⟩ : ∃ N : Nat, (T.size : Int) - 1 = (N : Int) := ⟨T.size - 1, by omega⟩
      have hNle : N ≤ T.size := by omega
      have hdl : (T.extract 0 N).data.toList = t.dropLast := by
        rw [ext_take, hTl, List.dropLast_eq_take]
        congr 1; rw [← hTs]; omega
      have hfin : Hid (PairIs (t.dropLast, true) w (.returned (.tuple #[.string (T.extract 0 N), .bool true])) w) := ret_pair hdl rfl
      clear c1 e1 hp hst hT hTl hTs s1 e2 hl hdl
      go_enter Tryd.func33, Tryd.ntmps33
      go_wp2_with (first
        | (go_at_call 49; (with_reducible refine (C1.out _).mono ?_); rintro e w1 ⟨rfl, rfl⟩)
        | (go_at_call 53; (with_reducible refine (S1.out _).mono ?_); rintro e w1 ⟨rfl, rfl⟩))
      go_ret2
      exact hfin.out
    · have hp : wrapP s.data.toList = (s.data.toList, false) := by unfold wrapP wrap; rw [hst]; simp only; rw [if_neg hl]
      rw [hp]
      rw [show (t.getLast? == some 93) = false from beq_eq_false_iff_ne.2 hl] at s1
      have S1 := Lib.hid s1
      have hfin := Lib.hid (pair_same s w false)
      clear c1 e1 hp hst hT hTl hTs s1 e2 hl
      go_enter Tryd.func33, Tryd.ntmps33
      go_wp2_with (first
        | (go_at_call 49; (with_reducible refine (C1.out _).mono ?_); rintro e w1 ⟨rfl, rfl⟩)
        | (go_at_call 53; (with_reducible refine (S1.out _).mono ?_); rintro e w1 ⟨rfl, rfl⟩))
      go_ret2
      exact hfin.out
end Go.Proofs.YtmpggcjfmcigmaaDoor
