/- Walk: the law NumPads. -/
import Derived.Test.YtjlbnboggcnamaaDoorLaw1
namespace Go.Proofs.YtjlbnboggcnamaaDoor
open Go.RowKit Pk Hx C1

theorem clamp_facts (n lo hi : Int) (h : lo ≤ hi) : lo ≤ clampI n lo hi ∧ clampI n lo hi ≤ hi ∧ clampI (clampI n lo hi) lo hi = clampI n lo hi ∧ (lo ≤ n → n ≤ hi → clampI n lo hi = n) := by
  unfold clampI
  refine ⟨?_, ?_, ?_, ?_⟩ <;> (repeat' split) <;> omega
theorem pad_split (n wd : Int) (hb : ¬ (n < 0 ∨ wd < 0 ∨ 100 < wd)) : padL n wd = List.replicate (wd.toNat - (Lib.itoa n).length) 48 ++ Lib.itoa n := by unfold padL; rw [if_neg hb]
theorem zero_at {s : ByteArray} {k m : Nat} {r : List UInt8} (h : s.data.toList = List.replicate m 48 ++ r) (hk : k < m) (hs : k < s.size) : s[k] = 48 := by
  have h1 : s.data.toList[k]'(by show k < s.size; exact hs) = s[k] := rfl
  rw [← h1]
  simp only [h]
  rw [List.getElem_append_left (by simpa using hk)]
  simp
theorem ext_listP (x : ByteArray) (i j : Nat) : (x.extract i j).data.toList = (x.data.toList.drop i).take (j - i) := by rw [← Lib.extract_toList, Lib.toList_data]
set_option maxRecDepth 100000 in
set_option maxHeartbeats 4000000 in
theorem pads_any (n wd lo hi : Int) (w : World) (h : Ready w) (h0 : -9223372036854775808 ≤ n) (h1 : n ≤ 9223372036854775807) :
    Calls Tryd.prog 5 #[.int .i64 n, .int .i64 wd, .int .i64 lo, .int .i64 hi] w fun e w' => e = .returned (.bool true) ∧ Below w.heap.size w w' := by
  have H := Lib.hid h
  have tb := Below.refl w.heap.size w
  clear h
  obtain ⟨C, hC⟩ : ∃ C, C = clampI n lo hi := ⟨_, rfl⟩
  have hf := clamp_facts n lo hi
  have c1 := fun w => clamp_any n lo hi w
  have c2 := fun w => clamp_any C lo hi w
  rw [← hC] at hf c1
  have HF := Lib.hid hf
  have C1 := Lib.hid c1
  have C2 := Lib.hid c2
  clear hf c1 c2 hC
  go_enter Tryd.func5, Tryd.ntmps5
  go_upto_region 3 with (first
            | (go_at_call 6; (with_reducible refine (small_any _ (H.out.later tb)).mono ?_); rintro e w1 ⟨rfl, hb1⟩; have tb := tb.trans (hb1.mono tb.size))
            | (go_at_call 17; (with_reducible refine (C1.out _).mono ?_); rintro e w1 ⟨rfl, rfl⟩))
  go_cut [54] (fun v wc => v = .bool false ∧ wc = w1)
  case first =>
    by_cases hle : lo ≤ hi
    · obtain ⟨f1, f2, f3, f4⟩ := HF.out hle
      have c2 := C2.out
      rw [f3] at c2
      have C3 := Lib.hid c2
      clear c2 f3
      by_cases g1 : lo ≤ n
      · by_cases g2 : n ≤ hi
        · have f5 := f4 g1 g2
          subst f5
          clear f4
          go_wp2_with (go_at_call 17; (with_reducible refine (C3.out _).mono ?_); rintro e w1 ⟨rfl, rfl⟩)
          go_meet
          exact ⟨by first | rfl | (simp; omega), rfl⟩
        · clear f4
          go_wp2_with (go_at_call 17; (with_reducible refine (C3.out _).mono ?_); rintro e w1 ⟨rfl, rfl⟩)
          go_meet
          exact ⟨by first | rfl | (simp; omega), rfl⟩
      · clear f4
        go_wp2_with (go_at_call 17; (with_reducible refine (C3.out _).mono ?_); rintro e w1 ⟨rfl, rfl⟩)
        go_meet
        exact ⟨by first | rfl | (simp; omega), rfl⟩
    · go_wp2
      go_meet
      exact ⟨rfl, rfl⟩
  case rest =>
  obtain ⟨rfl, rfl⟩ := hcut
  clear HF C1 C2
  by_cases hbad : n < 0 ∨ wd < 0 ∨ 100 < wd
  · have hp : padL n wd = [] := by unfold padL; rw [if_pos hbad]
    have p1 := fun w hw => pad_any n wd w h0 h1 hw
    rw [hp] at p1
    have P1 := Lib.hid p1
    clear hp p1
    rcases (show n < 0 ∨ (0 ≤ n ∧ wd < 0) ∨ (0 ≤ n ∧ 0 ≤ wd ∧ 100 < wd) by omega) with a | ⟨a, b⟩ | ⟨a, b, c⟩
    all_goals
      clear hbad
      go_wp2_with (go_at_call 13; (with_reducible refine (P1.out _ (H.out.later tb).tab).mono ?_); rintro e w1 ⟨rfl, hb1⟩; have tb := tb.trans (hb1.mono tb.size))
      go_ret
      exact ⟨rfl, tb⟩
  · have hp := pad_split n wd hbad
    have a : 0 ≤ n := by omega
    have b : 0 ≤ wd := by omega
    have c : wd ≤ 100 := by omega
    have hlen := itoa_len h0 h1
    obtain ⟨T, hT, hTl, hTs⟩ := arr_ex1 (Lib.itoa n)
    obtain ⟨S, hS, hSl, hSs⟩ := arr_ex1 (padL n wd)
    have p1 := fun w hw => pad_any n wd w h0 h1 hw
    rw [← hS] at p1
    have t1 := fun w hw => text_any n w h0 h1 hw
    rw [← hT] at t1
    have P1 := Lib.hid p1
    have T1 := Lib.hid t1
    have hSn : S.size = (wd.toNat - T.size) + T.size := by rw [hSs, hp, List.length_append, List.length_replicate, ← hTs]
    have hSl' : S.data.toList = List.replicate (wd.toNat - T.size) 48 ++ T.data.toList := by rw [hSl, hp, hTl, ← hTs]
    have hTb : T.size ≤ 20 := by omega
    have hSb : S.size ≤ 200 := by omega
    have HZ : Hid (∀ k (hk : k < S.size), k < S.size - T.size → S[k] = 48) := fun k hk hk2 => zero_at (k := k) hSl' (by omega) hk
    have hmax : max wd (T.size : Int) = (S.size : Int) := by omega
    have hq : ((S.size : Int) != max wd (T.size : Int)) = false := by rw [bne_eq_false_iff_eq]; omega
    have hge : T.size ≤ S.size := by omega
    have hge' : (0 : Int) ≤ (S.size : Int) - (T.size : Int) := by omega
    have htn : ((S.size : Int) - (T.size : Int)).toNat = S.size - T.size := by omega
    have hex : S.extract (S.size - T.size) S.size = T := by
      have e1 : (S.extract (S.size - T.size) S.size).data.toList = T.data.toList := by
        rw [ext_listP, hSl', show S.size - T.size = wd.toNat - T.size by omega]
        rw [List.drop_append_of_le_length (by simp), List.take_of_length_le (by simp; omega)]
        simp
      have : ∀ a b : ByteArray, a.data.toList = b.data.toList → a = b := fun a b h => by
        cases a; cases b; congr 1; exact Array.toList_inj.1 h
      exact this _ _ e1
    clear p1 t1 hT hTl hTs hS hSl hSs hp hSn hSl' hlen hbad hmax
    go_wp2_with (first
            | (go_at_call 13; (with_reducible refine (P1.out _ (H.out.later tb).tab).mono ?_); rintro e w1 ⟨rfl, hb1⟩; have tb := tb.trans (hb1.mono tb.size))
            | (go_at_call 11; (with_reducible refine (T1.out _ (H.out.later tb).tab).mono ?_); rintro e w1 ⟨rfl, hb1⟩; have tb := tb.trans (hb1.mono tb.size)))
    go_loop [13] (fun v => ∃ k : Nat, v = .int .i64 k ∧ k ≤ S.size - T.size) (fun v => S.size - (intOf v).toNat)
    case atStart => exact ⟨0, rfl, by omega⟩
    case round =>
      obtain ⟨k, rfl, hk⟩ := hrel
      by_cases hlt : k < S.size - T.size
      · have hz := HZ.out k (by omega) hlt
        have q1 : ((S[k].toNat : Int) != 48) = false := by rw [hz]; rfl
        have hlt2 : (k : Int) < (S.size : Int) - (T.size : Int) := by omega
        clear hz
        go_wp2
        go_round
        case rel => exact ⟨k + 1, by go_num, by omega⟩
        case measure => simp [intOf]; omega
      · have hge2 : (S.size : Int) - (T.size : Int) ≤ (k : Int) := by omega
        go_wp2
        go_ret
        exact ⟨rfl, tb⟩
end Go.Proofs.YtjlbnboggcnamaaDoor
