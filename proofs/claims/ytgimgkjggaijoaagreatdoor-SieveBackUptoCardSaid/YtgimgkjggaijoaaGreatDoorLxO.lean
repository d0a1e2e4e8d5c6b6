/- Walks: lex: number. -/
import Derived.Test.YtgimgkjggaijoaaGreatDoorLxN
namespace Lx
open Go Pk C1

theorem val_zeros : ∀ (l : List UInt8) (c : UInt8), val 0 (Lib.trimLeftB l 48 ++ [c]) = val 0 (l ++ [c])
  | [], _ => rfl
  | d :: r, c => by
    unfold Lib.trimLeftB
    rw [List.dropWhile_cons]
    by_cases h : d = 48
    · have ih := val_zeros r c
      unfold Lib.trimLeftB at ih
      rw [if_pos (by simp [h]), ih, h]; rfl
    · rw [if_neg (by simp [h])]
theorem trim_mem {l : List UInt8} {c : UInt8} (h : c ∈ Lib.trimLeftB l 48) : c ∈ l := (List.dropWhile_sublist _).subset h
theorem trim_head : ∀ (l : List UInt8) (c : UInt8), (Lib.trimLeftB l 48).head? = some c → c ≠ 48
  | [], _, h => by cases h
  | d :: r, c, h => by
    unfold Lib.trimLeftB at h
    rw [List.dropWhile_cons] at h
    by_cases hd : d = 48
    · rw [if_pos (by simp [hd])] at h
      exact trim_head r c h
    · rw [if_neg (by simp [hd])] at h
      have : d = c := by simpa using h
      rw [← this]; exact hd
theorem can_trim {l : List UInt8} {c : UInt8} (hl : ∀ d ∈ l, isDig d = true) (hc : isDig c = true) : Can (Lib.trimLeftB l 48 ++ [c]) ∧ ival (Lib.trimLeftB l 48 ++ [c]) = val 0 (l ++ [c]) := by
  have hd : ∀ d ∈ Lib.trimLeftB l 48 ++ [c], digC d = true := fun d hd => by
    rcases List.mem_append.1 hd with h | h
    · exact hl d (trim_mem h)
    · rw [List.mem_singleton] at h; rw [h]; exact hc
  have hn : negL (Lib.trimLeftB l 48 ++ [c]) = false := by
    unfold negL
    cases h : Lib.trimLeftB l 48 ++ [c] with
    | nil => rfl
    | cons d r =>
      have := (digC_iff d).1 (hd d (by rw [h]; simp))
      show (some d == some 45) = false
      rw [beq_eq_false_iff_ne]
      intro e
      injection e with e
      rw [e] at this; simp at this
  have hb : body (Lib.trimLeftB l 48 ++ [c]) = Lib.trimLeftB l 48 ++ [c] := by unfold body; rw [hn]; rfl
  refine ⟨⟨by rw [hb]; exact hd, by rw [hb]; simp, ?_⟩, ?_⟩
  · rw [hb]
    cases h : Lib.trimLeftB l 48 with
    | nil =>
      by_cases h48 : c = 48
      · right; rw [h48]; rfl
      · left
        intro d hd'
        have : c = d := by simpa using hd'
        rw [← this]; exact h48
    | cons a b =>
      left
      intro d hd'
      exact trim_head l d (by rw [h]; simpa using hd')
  · unfold ival
    rw [hn, if_neg (by decide), hb, val_zeros]
theorem parse_trim {l : List UInt8} {c : UInt8} (hl : ∀ d ∈ l, isDig d = true) (hc : isDig c = true) :
    parseL (Lib.trimLeftB l 48 ++ [c]) 0 1099511627776 = if val 0 (l ++ [c]) ≤ most then ((val 0 (l ++ [c]) : Int), true) else (0, false) := by
  obtain ⟨h1, h2⟩ := can_trim hl hc
  unfold parseL
  by_cases h : val 0 (l ++ [c]) ≤ most
  · rw [if_pos h]
    unfold most at h
    rw [prs_some h1 (by rw [h2]; omega) (by rw [h2]; omega), h2]
    unfold pickR
    simp only
    rw [if_pos (by omega)]
  · rw [if_neg h]
    unfold most at h
    by_cases h3 : ival (Lib.trimLeftB l 48 ++ [c]) ≤ 9223372036854775807
    · rw [prs_some h1 (by rw [h2]; omega) h3, h2]
      unfold pickR
      simp only
      rw [if_neg (by omega)]
    · rw [prs_none (fun hh => h3 hh.2.2)]
      rfl
theorem span_dig : ∀ (l : List UInt8), ∀ d ∈ l.take (spanL isDig l), isDig d = true
  | [], d, h => by cases h
  | c :: r, d, h => by
    unfold spanL at h
    by_cases hc : isDig c = true
    · rw [if_pos hc, List.take_succ_cons] at h
      rcases List.mem_cons.1 h with h | h
      · rw [h]; exact hc
      · exact span_dig r d h
    · rw [if_neg hc] at h; cases h
end Lx
namespace Go.Proofs.YtgimgkjggaijoaaGreatDoor
open Go.RowKit Pk Lx C1

/-- what the lexer reads of the library's own variables -/
def LW (w : World) : Prop := (∃ m, w.cell? ⟨0, 0, none⟩ = some (.int .i64 m)) ∧ ∃ ev, w.cell? ⟨3, 0, none⟩ = some ev ∧ (ev = .nilIface ∨ ∃ te pe, ev = .iface te pe)
theorem LW.later {w w' : World} (h : LW w) (hb : Below w.heap.size w w') : LW w' := by
  obtain ⟨⟨m, h1⟩, ev, h2, h3⟩ := h
  exact ⟨⟨m, cell_later hb h1⟩, ev, cell_later hb h2, h3⟩
def NumT (o : Option (Nat × Nat)) : Value := match o with | none => .tuple #[.int .i64 0, .int .i64 (-1)] | some p => .tuple #[.int .i64 (p.1 : Nat), .int .i64 (p.2 : Nat)]
def NumIs (o : Option (Nat × Nat)) (w : World) (e : Ending) (w' : World) : Prop := e = .returned (NumT o) ∧ Below w.heap.size w w'
theorem app_ext (s : ByteArray) (n : Nat) (h0 : 0 < n) (hn : n ≤ s.size) : (s.extract (n - 1) n).data.toList = [s[n - 1]'(by omega)] := by
  rw [Lib.extract_data, show n - (n - 1) = 1 by omega, List.drop_eq_getElem_cons (by rw [dataL]; omega)]
  rfl
theorem appB (a b : ByteArray) : (a ++ b).data.toList = a.data.toList ++ b.data.toList := by rw [ByteArray.data_append]; simp
theorem kmg_bits (c : UInt8) : bits .andNot .u8 (c.toNat : Int) 32 = ((c.toNat - c.toNat / 32 % 2 * 32 : Nat) : Int) := by
  have e : ∀ n : Nat, n < 256 → bits .andNot .u8 (n : Int) 32 = ((n - n / 32 % 2 * 32 : Nat) : Int) := by decide +kernel
  exact e c.toNat c.toNat_lt
theorem kmg_ix (c : UInt8) : Lib.indexByte [75, 77, 71] (UInt8.ofNat (c.toNat - c.toNat / 32 % 2 * 32)) = (kmg c : Int) - 1 := by
  have e : ∀ n : Nat, n < 256 → Lib.indexByte [75, 77, 71] (UInt8.ofNat (n - n / 32 % 2 * 32)) = (kmg (UInt8.ofNat n) : Int) - 1 := by decide +kernel
  have := e c.toNat c.toNat_lt
  rwa [UInt8.ofNat_toNat] at this
theorem kmg_any (c : UInt8) (w : World) : Calls Tryz.prog 36 #[.string ⟨#[75, 77, 71]⟩, .int .u8 (bits .andNot .u8 (c.toNat : Int) 32)] w fun e w' => e = .returned (.int .i64 ((kmg c : Int) - 1)) ∧ w = w' := by
  have h := kmg_ix c
  rw [kmg_bits]
  generalize c.toNat - c.toNat / 32 % 2 * 32 = x at *
  have := Tryz.strings_IndexByte ⟨#[75, 77, 71]⟩ (x : Int) w
  refine this.mono fun _ _ ⟨h1, h2⟩ => ⟨?_, h2.symm⟩
  rw [h1, ← h]
  rfl
theorem hdW_at (s : ByteArray) (n : Nat) (h : n < s.size) : hdW (s.data.toList.drop n) = isWd s[n] := by
  have hd : s.data.toList.drop n = s[n] :: tl s (n + 1) := tl_cons s n h
  rw [hd]; rfl
theorem hdW_out (s : ByteArray) (n : Nat) (h : ¬ n < s.size) : hdW (s.data.toList.drop n) = false := by
  have hd : s.data.toList.drop n = [] := List.drop_eq_nil_of_le (by rw [dataL]; omega)
  rw [hd]; rfl
set_option maxHeartbeats 4000000 in
set_option maxRecDepth 100000 in
theorem number_any (s : ByteArray) (w : World) (hw : LW w) (hs : s.size ≤ 5000000) (h0 : 0 < s.size) (hd0 : isDig s[0] = true) : Calls Tryz.prog 43 #[.string s] w (NumIs (numL s.data.toList) w) := by
  obtain ⟨-, ev, hv, hev⟩ := hw
  have hS := fun w => span_dig s w (by omega)
  have hle := spanL_le isDig s.data.toList
  rw [dataL] at hle
  have hn0 : 0 < spanL isDig s.data.toList := by rw [data_cons s h0]; unfold spanL; rw [if_pos hd0]; omega
  have hdg := Lx.span_dig s.data.toList
  have hN : numL s.data.toList = if 12 < spanL isDig s.data.toList ∨ most < val 0 (s.data.toList.take (spanL isDig s.data.toList)) then none
    else if hdK (s.data.toList.drop (spanL isDig s.data.toList)) = 0 then (if hdW (s.data.toList.drop (spanL isDig s.data.toList)) = true then none else some (val 0 (s.data.toList.take (spanL isDig s.data.toList)), spanL isDig s.data.toList))
    else if most / 1024 ^ hdK (s.data.toList.drop (spanL isDig s.data.toList)) < val 0 (s.data.toList.take (spanL isDig s.data.toList)) then none
    else if hdW (s.data.toList.drop (spanL isDig s.data.toList + 1)) = true then none else some (val 0 (s.data.toList.take (spanL isDig s.data.toList)) * 1024 ^ hdK (s.data.toList.drop (spanL isDig s.data.toList)), spanL isDig s.data.toList + 1) := rfl
  generalize numL s.data.toList = X at *
  generalize spanL isDig s.data.toList = n at *
  have HS := Lib.hid hS
  -- the digits without leading zeros
  have e1 : s.data.toList.take n = s.data.toList.take (n - 1) ++ [s[n - 1]'(by omega)] := by
    have := List.take_succ_eq_append_getElem (l := s.data.toList) (i := n - 1) (by rw [dataL]; omega)
    rw [show n - 1 + 1 = n by omega] at this
    rw [this]; rfl
  have hp := parse_trim (l := s.data.toList.take (n - 1)) (c := s[n - 1]'(by omega)) (fun d hd => hdg d (by rw [e1]; simp [hd])) (hdg _ (by rw [e1]; simp))
  rw [← e1] at hp
  have hT := fun w => Tryz.strings_TrimLeft_one (s.extract 0 (n - 1)) 48 (by decide) w
  have e2 : (s.extract 0 (n - 1)).data.toList = s.data.toList.take (n - 1) := by rw [Lib.extract_data, List.drop_zero, Nat.sub_zero]
  rw [e2] at hT
  obtain ⟨T, hTe, hTd, hTs⟩ := arrE (Lib.trimLeftB (s.data.toList.take (n - 1)) 48)
  rw [← hTe] at hT
  have hTl : T.size ≤ s.size := by
    rw [hTs]
    unfold Lib.trimLeftB
    have := (List.dropWhile_sublist (fun x : UInt8 => x == 48) (l := s.data.toList.take (n - 1))).length_le
    rw [List.length_take, dataL] at this
    omega
  have hE := ext_size s (n - 1) n
  have hP := fun w1 (hb : Below w.heap.size w w1) => parse_any (T ++ s.extract (n - 1) n) 0 1099511627776 w1 (by rw [ByteArray.size_append, hE]; omega) ev (cell_later hb hv) hev
  rw [appB, hTd, app_ext s n hn0 hle, hp] at hP
  generalize val 0 (s.data.toList.take n) = v at *
  have HX := Lib.hid hN
  clear hN
  have HT := Lib.hid hT
  have HP := Lib.hid (fun p (hp : (if v ≤ most then ((v : Int), true) else (0, false)) = p) w1 (hb : Below w.heap.size w w1) => hp ▸ hP w1 hb)
  have z1 : IntKind.i64.wrap ((n : Int) - 1) = (n : Int) - 1 := w64 rfl (by omega) (by omega)
  have z2 : (0 : Int) ≤ (n : Int) - 1 := by omega
  have z3 : ((n : Int) - 1).toNat = n - 1 := by omega
  have z4 : (n : Int) ≤ (s.size : Int) := by omega
  have z5 : (1 : Int) ≤ (n : Int) := by omega
  clear hT hP hTe hTd hTs hp e1 e2 hdg hE hS hv hev
  obtain ⟨⟨p1, p2⟩, hpp⟩ : ∃ p, (if v ≤ most then ((v : Int), true) else (0, false)) = p := ⟨_, rfl⟩
  replace HP := Lib.hid (HP.out _ hpp)
  have HPP := Lib.hid hpp
  clear hpp
  go_enter Tryz.func43, Tryz.ntmps43
  go_upto_region 2 with (go_at_call 73; (with_reducible refine (HS.out _).mono ?_); rintro e w1 ⟨rfl, rfl⟩)
  go_cut [5, 6] (fun pv ov wx => pv = .int .i64 p1 ∧ ov = .bool p2 ∧ Below w.heap.size w wx)
  case first =>
    go_region_with (first
      | (go_at_call 80; (with_reducible refine (HT.out _).mono ?_); rintro e w1 ⟨rfl, hw1⟩; subst w1)
      | (go_at_call 79; (with_reducible refine (HP.out _ (Below.refl _ _).drew).mono ?_); rintro e w2 ⟨rfl, hb2⟩))
    all_goals
      go_wp2_with fail
      go_meet
      exact ⟨rfl, rfl, (Below.refl w.heap.size w).drew.trans hb2⟩
  case rest =>
    obtain ⟨rfl, rfl, hb⟩ := hcut
    clear HT HP HS z1 z2 z3
    have hHX := HX.out
    by_cases h12 : 12 < n
    · rw [if_pos (.inl h12)] at hHX
      have HY := Lib.hid hHX
      clear hHX
      go_wp2
      go_ret2
      exact ⟨by rw [HY.out]; rfl, hb⟩
    · have q12 : decide ((12 : Int) < (n : Int)) = false := decide_eq_false (by omega)
      by_cases hv : most < v
      · rw [if_pos (.inr hv)] at hHX
        have HY := Lib.hid hHX
        have e := HPP.out
        rw [if_neg (by omega)] at e
        obtain ⟨rfl, rfl⟩ := Prod.mk.inj e
        clear hHX e
        go_wp2
        go_ret2
        exact ⟨by rw [HY.out]; rfl, hb⟩
      · rw [if_neg (by omega)] at hHX
        have e := HPP.out
        rw [if_pos (by omega)] at e
        obtain ⟨rfl, rfl⟩ := Prod.mk.inj e
        clear e HX HPP
        have hv : v ≤ 1099511627776 := by unfold most at hv; omega
        by_cases hlt : n < s.size
        · have hd : s.data.toList.drop n = s[n] :: tl s (n + 1) := tl_cons s n hlt
          have hcb := s[n].toNat_lt
          have hd1 : hdK (s.data.toList.drop n) = kmg s[n] := by rw [hd]; rfl
          rw [hd1] at hHX
          have hkl : kmg s[n] ≠ 0 → isLet s[n] = true := fun h => by
            cases hl : isLet s[n] with
            | true => rfl
            | false => exact absurd (kmg_let hl) h
          have hk3 : kmg s[n] ≤ 3 := by unfold kmg; split <;> (try split) <;> (try split) <;> omega
          have hI := kmg_any s[n]
          have hL := letter_any s[n]
          have hD := digit_any s[n]
          clear hd hd1
          by_cases hk : kmg s[n] = 0
          · rw [if_pos hk] at hHX
            rw [hk] at hI
            have HI := Lib.hid hI
            clear hI hk hkl hk3 hL hD
            rw [hdW_at s (n) (by omega)] at hHX
            unfold isWd at hHX
            have HL := Lib.hid (letter_any s[n])
            have HD := Lib.hid (digit_any s[n])
            generalize isLet s[n] = bl at *
            generalize isDig s[n] = bd at *
            cases bl with
            | true =>
              have HY := Lib.hid (show X = none from hHX)
              clear hHX
              go_wp2_with (first | (go_at_call 36; (with_reducible refine (HI.out _).mono ?_); rintro e w1 ⟨rfl, rfl⟩) | (go_at_call 72; (with_reducible refine (HL.out _).mono ?_); rintro e w1 ⟨rfl, rfl⟩) | (go_at_call 72; (with_reducible refine (HL0.out _).mono ?_); rintro e w1 ⟨rfl, rfl⟩) | (go_at_call 42; (with_reducible refine (HD.out _).mono ?_); rintro e w1 ⟨rfl, rfl⟩))
              go_ret2
              exact ⟨by rw [HY.out]; rfl, hb⟩
            | false =>
              cases bd with
              | true =>
                have HY := Lib.hid (show X = none from hHX)
                clear hHX
                go_wp2_with (first | (go_at_call 36; (with_reducible refine (HI.out _).mono ?_); rintro e w1 ⟨rfl, rfl⟩) | (go_at_call 72; (with_reducible refine (HL.out _).mono ?_); rintro e w1 ⟨rfl, rfl⟩) | (go_at_call 72; (with_reducible refine (HL0.out _).mono ?_); rintro e w1 ⟨rfl, rfl⟩) | (go_at_call 42; (with_reducible refine (HD.out _).mono ?_); rintro e w1 ⟨rfl, rfl⟩))
                go_ret2
                exact ⟨by rw [HY.out]; rfl, hb⟩
              | false =>
                have HY := Lib.hid (show X = some (v, n) from hHX)
                clear hHX
                go_wp2_with (first | (go_at_call 36; (with_reducible refine (HI.out _).mono ?_); rintro e w1 ⟨rfl, rfl⟩) | (go_at_call 72; (with_reducible refine (HL.out _).mono ?_); rintro e w1 ⟨rfl, rfl⟩) | (go_at_call 72; (with_reducible refine (HL0.out _).mono ?_); rintro e w1 ⟨rfl, rfl⟩) | (go_at_call 42; (with_reducible refine (HD.out _).mono ?_); rintro e w1 ⟨rfl, rfl⟩))
                go_ret2
                exact ⟨by rw [HY.out]; rfl, hb⟩
          · have hl := hkl hk
            rw [hl] at hL
            have HL0 := Lib.hid hL
            clear hkl hD hL hl
            rcases (show kmg s[n] = 1 ∨ kmg s[n] = 2 ∨ kmg s[n] = 3 by omega) with hk1 | hk1 | hk1
            · rw [if_neg hk, hk1] at hHX
              rw [hk1] at hI
              have HI := Lib.hid (show ∀ w, Calls Tryz.prog 36 #[.string ⟨#[75, 77, 71]⟩, .int .u8 (bits .andNot .u8 (s[n].toNat : Int) 32)] w fun e w' => e = .returned (.int .i64 (1 - 1)) ∧ w = w' from hI)
              clear hk hk1 hI hk3
              have ht0 : most / 1024 ^ 1 = 1073741824 := by decide
              have hm0 : 1024 ^ 1 = 1024 := by decide
              rw [ht0, hm0] at hHX
              clear ht0 hm0
              by_cases ht : 1073741824 < v
              · rw [if_pos ht] at hHX
                have HY := Lib.hid hHX
                clear hHX
                go_wp2_with (first
                  | (go_at_call 36; (with_reducible refine (HI.out _).mono ?_); rintro e w1 ⟨rfl, rfl⟩)
                  | (go_at_call 72; (with_reducible refine (HL0.out _).mono ?_); rintro e w1 ⟨rfl, rfl⟩))
                go_ret2
                exact ⟨by rw [HY.out]; rfl, hb⟩
              · rw [if_neg ht] at hHX
                have ht : v ≤ 1073741824 := by omega
                by_cases hlt2 : n + 1 < s.size
                · have hfoo : True := trivial
                  rw [hdW_at s (n + 1) (by omega)] at hHX
                  unfold isWd at hHX
                  have HL := Lib.hid (letter_any s[n + 1])
                  have HD := Lib.hid (digit_any s[n + 1])
                  generalize isLet s[n + 1] = bl at *
                  generalize isDig s[n + 1] = bd at *
                  cases bl with
                  | true =>
                    have HY := Lib.hid (show X = none from hHX)
                    clear hHX
                    go_wp2_with (first | (go_at_call 36; (with_reducible refine (HI.out _).mono ?_); rintro e w1 ⟨rfl, rfl⟩) | (go_at_call 72; (with_reducible refine (HL.out _).mono ?_); rintro e w1 ⟨rfl, rfl⟩) | (go_at_call 72; (with_reducible refine (HL0.out _).mono ?_); rintro e w1 ⟨rfl, rfl⟩) | (go_at_call 42; (with_reducible refine (HD.out _).mono ?_); rintro e w1 ⟨rfl, rfl⟩))
                    go_ret2
                    exact ⟨by rw [HY.out]; rfl, hb⟩
                  | false =>
                    cases bd with
                    | true =>
                      have HY := Lib.hid (show X = none from hHX)
                      clear hHX
                      go_wp2_with (first | (go_at_call 36; (with_reducible refine (HI.out _).mono ?_); rintro e w1 ⟨rfl, rfl⟩) | (go_at_call 72; (with_reducible refine (HL.out _).mono ?_); rintro e w1 ⟨rfl, rfl⟩) | (go_at_call 72; (with_reducible refine (HL0.out _).mono ?_); rintro e w1 ⟨rfl, rfl⟩) | (go_at_call 42; (with_reducible refine (HD.out _).mono ?_); rintro e w1 ⟨rfl, rfl⟩))
                      go_ret2
                      exact ⟨by rw [HY.out]; rfl, hb⟩
                    | false =>
                      have HY := Lib.hid (show X = some (v * 1024, n + 1) from hHX)
                      clear hHX
                      go_wp2_with (first | (go_at_call 36; (with_reducible refine (HI.out _).mono ?_); rintro e w1 ⟨rfl, rfl⟩) | (go_at_call 72; (with_reducible refine (HL.out _).mono ?_); rintro e w1 ⟨rfl, rfl⟩) | (go_at_call 72; (with_reducible refine (HL0.out _).mono ?_); rintro e w1 ⟨rfl, rfl⟩) | (go_at_call 42; (with_reducible refine (HD.out _).mono ?_); rintro e w1 ⟨rfl, rfl⟩))
                      go_ret2
                      exact ⟨by rw [HY.out]; rfl, hb⟩
                · rw [hdW_out s (n + 1) hlt2] at hHX
                  have HY := Lib.hid (show X = some (v * 1024, n + 1) from hHX)
                  clear hHX
                  go_wp2_with (first
                    | (go_at_call 36; (with_reducible refine (HI.out _).mono ?_); rintro e w1 ⟨rfl, rfl⟩)
                    | (go_at_call 72; (with_reducible refine (HL0.out _).mono ?_); rintro e w1 ⟨rfl, rfl⟩))
                  go_ret2
                  exact ⟨by rw [HY.out]; rfl, hb⟩
            · rw [if_neg hk, hk1] at hHX
              rw [hk1] at hI
              have HI := Lib.hid (show ∀ w, Calls Tryz.prog 36 #[.string ⟨#[75, 77, 71]⟩, .int .u8 (bits .andNot .u8 (s[n].toNat : Int) 32)] w fun e w' => e = .returned (.int .i64 (2 - 1)) ∧ w = w' from hI)
              clear hk hk1 hI hk3
              have ht0 : most / 1024 ^ 2 = 1048576 := by decide
              have hm0 : 1024 ^ 2 = 1048576 := by decide
              rw [ht0, hm0] at hHX
              clear ht0 hm0
              by_cases ht : 1048576 < v
              · rw [if_pos ht] at hHX
                have HY := Lib.hid hHX
                clear hHX
                go_wp2_with (first
                  | (go_at_call 36; (with_reducible refine (HI.out _).mono ?_); rintro e w1 ⟨rfl, rfl⟩)
                  | (go_at_call 72; (with_reducible refine (HL0.out _).mono ?_); rintro e w1 ⟨rfl, rfl⟩))
                go_ret2
                exact ⟨by rw [HY.out]; rfl, hb⟩
              · rw [if_neg ht] at hHX
                have ht : v ≤ 1048576 := by omega
                by_cases hlt2 : n + 1 < s.size
                · have hfoo : True := trivial
                  rw [hdW_at s (n + 1) (by omega)] at hHX
                  unfold isWd at hHX
                  have HL := Lib.hid (letter_any s[n + 1])
                  have HD := Lib.hid (digit_any s[n + 1])
                  generalize isLet s[n + 1] = bl at *
                  generalize isDig s[n + 1] = bd at *
                  cases bl with
                  | true =>
                    have HY := Lib.hid (show X = none from hHX)
                    clear hHX
                    go_wp2_with (first | (go_at_call 36; (with_reducible refine (HI.out _).mono ?_); rintro e w1 ⟨rfl, rfl⟩) | (go_at_call 72; (with_reducible refine (HL.out _).mono ?_); rintro e w1 ⟨rfl, rfl⟩) | (go_at_call 72; (with_reducible refine (HL0.out _).mono ?_); rintro e w1 ⟨rfl, rfl⟩) | (go_at_call 42; (with_reducible refine (HD.out _).mono ?_); rintro e w1 ⟨rfl, rfl⟩))
                    go_ret2
                    exact ⟨by rw [HY.out]; rfl, hb⟩
                  | false =>
                    cases bd with
                    | true =>
                      have HY := Lib.hid (show X = none from hHX)
                      clear hHX
                      go_wp2_with (first | (go_at_call 36; (with_reducible refine (HI.out _).mono ?_); rintro e w1 ⟨rfl, rfl⟩) | (go_at_call 72; (with_reducible refine (HL.out _).mono ?_); rintro e w1 ⟨rfl, rfl⟩) | (go_at_call 72; (with_reducible refine (HL0.out _).mono ?_); rintro e w1 ⟨rfl, rfl⟩) | (go_at_call 42; (with_reducible refine (HD.out _).mono ?_); rintro e w1 ⟨rfl, rfl⟩))
                      go_ret2
                      exact ⟨by rw [HY.out]; rfl, hb⟩
                    | false =>
                      have HY := Lib.hid (show X = some (v * 1048576, n + 1) from hHX)
                      clear hHX
                      go_wp2_with (first | (go_at_call 36; (with_reducible refine (HI.out _).mono ?_); rintro e w1 ⟨rfl, rfl⟩) | (go_at_call 72; (with_reducible refine (HL.out _).mono ?_); rintro e w1 ⟨rfl, rfl⟩) | (go_at_call 72; (with_reducible refine (HL0.out _).mono ?_); rintro e w1 ⟨rfl, rfl⟩) | (go_at_call 42; (with_reducible refine (HD.out _).mono ?_); rintro e w1 ⟨rfl, rfl⟩))
                      go_ret2
                      exact ⟨by rw [HY.out]; rfl, hb⟩
                · rw [hdW_out s (n + 1) hlt2] at hHX
                  have HY := Lib.hid (show X = some (v * 1048576, n + 1) from hHX)
                  clear hHX
                  go_wp2_with (first
                    | (go_at_call 36; (with_reducible refine (HI.out _).mono ?_); rintro e w1 ⟨rfl, rfl⟩)
                    | (go_at_call 72; (with_reducible refine (HL0.out _).mono ?_); rintro e w1 ⟨rfl, rfl⟩))
                  go_ret2
                  exact ⟨by rw [HY.out]; rfl, hb⟩
            · rw [if_neg hk, hk1] at hHX
              rw [hk1] at hI
              have HI := Lib.hid (show ∀ w, Calls Tryz.prog 36 #[.string ⟨#[75, 77, 71]⟩, .int .u8 (bits .andNot .u8 (s[n].toNat : Int) 32)] w fun e w' => e = .returned (.int .i64 (3 - 1)) ∧ w = w' from hI)
              clear hk hk1 hI hk3
              have ht0 : most / 1024 ^ 3 = 1024 := by decide
              have hm0 : 1024 ^ 3 = 1073741824 := by decide
              rw [ht0, hm0] at hHX
              clear ht0 hm0
              by_cases ht : 1024 < v
              · rw [if_pos ht] at hHX
                have HY := Lib.hid hHX
                clear hHX
                go_wp2_with (first
                  | (go_at_call 36; (with_reducible refine (HI.out _).mono ?_); rintro e w1 ⟨rfl, rfl⟩)
                  | (go_at_call 72; (with_reducible refine (HL0.out _).mono ?_); rintro e w1 ⟨rfl, rfl⟩))
                go_ret2
                exact ⟨by rw [HY.out]; rfl, hb⟩
              · rw [if_neg ht] at hHX
                have ht : v ≤ 1024 := by omega
                by_cases hlt2 : n + 1 < s.size
                · have hfoo : True := trivial
                  rw [hdW_at s (n + 1) (by omega)] at hHX
                  unfold isWd at hHX
                  have HL := Lib.hid (letter_any s[n + 1])
                  have HD := Lib.hid (digit_any s[n + 1])
                  generalize isLet s[n + 1] = bl at *
                  generalize isDig s[n + 1] = bd at *
                  cases bl with
                  | true =>
                    have HY := Lib.hid (show X = none from hHX)
                    clear hHX
                    go_wp2_with (first | (go_at_call 36; (with_reducible refine (HI.out _).mono ?_); rintro e w1 ⟨rfl, rfl⟩) | (go_at_call 72; (with_reducible refine (HL.out _).mono ?_); rintro e w1 ⟨rfl, rfl⟩) | (go_at_call 72; (with_reducible refine (HL0.out _).mono ?_); rintro e w1 ⟨rfl, rfl⟩) | (go_at_call 42; (with_reducible refine (HD.out _).mono ?_); rintro e w1 ⟨rfl, rfl⟩))
                    go_ret2
                    exact ⟨by rw [HY.out]; rfl, hb⟩
                  | false =>
                    cases bd with
                    | true =>
                      have HY := Lib.hid (show X = none from hHX)
                      clear hHX
                      go_wp2_with (first | (go_at_call 36; (with_reducible refine (HI.out _).mono ?_); rintro e w1 ⟨rfl, rfl⟩) | (go_at_call 72; (with_reducible refine (HL.out _).mono ?_); rintro e w1 ⟨rfl, rfl⟩) | (go_at_call 72; (with_reducible refine (HL0.out _).mono ?_); rintro e w1 ⟨rfl, rfl⟩) | (go_at_call 42; (with_reducible refine (HD.out _).mono ?_); rintro e w1 ⟨rfl, rfl⟩))
                      go_ret2
                      exact ⟨by rw [HY.out]; rfl, hb⟩
                    | false =>
                      have HY := Lib.hid (show X = some (v * 1073741824, n + 1) from hHX)
                      clear hHX
                      go_wp2_with (first | (go_at_call 36; (with_reducible refine (HI.out _).mono ?_); rintro e w1 ⟨rfl, rfl⟩) | (go_at_call 72; (with_reducible refine (HL.out _).mono ?_); rintro e w1 ⟨rfl, rfl⟩) | (go_at_call 72; (with_reducible refine (HL0.out _).mono ?_); rintro e w1 ⟨rfl, rfl⟩) | (go_at_call 42; (with_reducible refine (HD.out _).mono ?_); rintro e w1 ⟨rfl, rfl⟩))
                      go_ret2
                      exact ⟨by rw [HY.out]; rfl, hb⟩
                · rw [hdW_out s (n + 1) hlt2] at hHX
                  have HY := Lib.hid (show X = some (v * 1073741824, n + 1) from hHX)
                  clear hHX
                  go_wp2_with (first
                    | (go_at_call 36; (with_reducible refine (HI.out _).mono ?_); rintro e w1 ⟨rfl, rfl⟩)
                    | (go_at_call 72; (with_reducible refine (HL0.out _).mono ?_); rintro e w1 ⟨rfl, rfl⟩))
                  go_ret2
                  exact ⟨by rw [HY.out]; rfl, hb⟩
        · have hd : s.data.toList.drop n = [] := List.drop_eq_nil_of_le (by rw [dataL]; omega)
          rw [hd] at hHX
          have HY := Lib.hid (show X = some (v, n) from hHX)
          have q1 : decide (n < s.size) = false := decide_eq_false hlt
          clear hHX hd
          go_wp2
          go_ret2
          exact ⟨by rw [HY.out]; rfl, hb⟩
end Go.Proofs.YtgimgkjggaijoaaGreatDoor
