/- Walks: the reference of layer 1: Clamp, Pad, Digit, Hex, Unhex. -/
import Derived.Test.YtjlbnboggcnamaaDoorRef1
import Derived.Deep.RegionHeld3
namespace Go.Proofs.YtjlbnboggcnamaaDoor
open Go.RowKit Pk Hx C1

theorem clampR_any (n lo hi : Int) (w : World) :
    Calls Tryd.prog 18 #[.int .i64 n, .int .i64 lo, .int .i64 hi] w fun e w' => e = .returned (.int .i64 (clampI n lo hi)) ∧ w = w' := by
  by_cases h1 : n < lo
  · rw [clampI_lo h1]
    go_enter Tryd.func18, Tryd.ntmps18
    go_wp2
    go_ret
    exact ⟨rfl, rfl⟩
  · by_cases h2 : hi < n
    · rw [clampI_hi h1 h2]
      go_enter Tryd.func18, Tryd.ntmps18
      go_wp2
      go_ret
      exact ⟨rfl, rfl⟩
    · rw [clampI_in h1 h2]
      go_enter Tryd.func18, Tryd.ntmps18
      go_wp2
      go_ret
      exact ⟨rfl, rfl⟩
def digI (n : Int) : Int := if unhexI n < 0 then 16 else unhexI n
theorem ret_i64r {a b : Int} (h : a = b) : Ending.returned (.int .i64 a) = .returned (.int .i64 b) := by rw [h]
set_option maxHeartbeats 1000000 in
theorem digit_any (n : Int) (w : World) (h0 : 0 ≤ n) (h1 : n < 256) :
    Calls Tryd.prog 23 #[.int .u8 n] w fun e w' => e = .returned (.int .i64 (digI n)) ∧ w = w' := by
  have hd : (48 ≤ n → n ≤ 57 → digI n = n - 48) ∧ (97 ≤ n → n ≤ 102 → digI n = n - 97 + 10) ∧ (65 ≤ n → n ≤ 70 → digI n = n - 65 + 10) ∧ (¬ (48 ≤ n ∧ n ≤ 57) → ¬ (97 ≤ n ∧ n ≤ 102) → ¬ (65 ≤ n ∧ n ≤ 70) → digI n = 16) := by
    unfold digI unhexI
    refine ⟨?_, ?_, ?_, ?_⟩ <;> intros <;> split <;> (try split) <;> (try split) <;> (try split) <;> (try split) <;> omega
  have HD := Lib.hid hd
  clear hd
  rcases (show (48 ≤ n ∧ n ≤ 57) ∨ (97 ≤ n ∧ n ≤ 102) ∨ (65 ≤ n ∧ n ≤ 70) ∨ n < 48 ∨ (57 < n ∧ n < 65) ∨ (70 < n ∧ n < 97) ∨ 102 < n by omega) with ⟨a, b⟩ | ⟨a, b⟩ | ⟨a, b⟩ | a | ⟨a, b⟩ | ⟨a, b⟩ | a
  · have H := Lib.hid (HD.out.1 a b)
    go_enter Tryd.func23, Tryd.ntmps23
    go_wp2
    go_ret
    exact ⟨ret_i64r H.out.symm, rfl⟩
  · have H := Lib.hid (HD.out.2.1 a b)
    go_enter Tryd.func23, Tryd.ntmps23
    go_wp2
    go_ret
    exact ⟨ret_i64r H.out.symm, rfl⟩
  · have H := Lib.hid (HD.out.2.2.1 a b)
    go_enter Tryd.func23, Tryd.ntmps23
    go_wp2
    go_ret
    exact ⟨ret_i64r H.out.symm, rfl⟩
  all_goals
    have H := Lib.hid (HD.out.2.2.2 (by omega) (by omega) (by omega))
    go_enter Tryd.func23, Tryd.ntmps23
    go_wp2
    go_ret
    exact ⟨ret_i64r H.out.symm, rfl⟩
theorem padR_step (T : ByteArray) (n : Nat) : ((⟨#[48]⟩ : ByteArray) ++ ⟨(List.replicate n 48 ++ T.data.toList).toArray⟩) = ⟨(List.replicate (n + 1) 48 ++ T.data.toList).toArray⟩ := by
  have : ∀ a b : ByteArray, a.data = b.data → a = b := fun a b h => by cases a; cases b; congr 1
  apply this
  rw [ByteArray.data_append]
  simp [List.replicate_succ]
set_option maxHeartbeats 1000000 in
theorem padR_any (n wd : Int) (w : World) (h0 : -9223372036854775808 ≤ n) (h1 : n ≤ 9223372036854775807) :
    Calls Tryd.prog 14 #[.int .i64 n, .int .i64 wd] w fun e w' => e = .returned (.string ⟨(padL n wd).toArray⟩) ∧ Below w.heap.size w w' := by
  by_cases hbad : n < 0 ∨ wd < 0 ∨ 100 < wd
  · have hp : padL n wd = [] := by unfold padL; rw [if_pos hbad]
    have HP := Lib.hid hp
    clear hp
    rcases (show n < 0 ∨ (0 ≤ n ∧ wd < 0) ∨ (0 ≤ n ∧ 0 ≤ wd ∧ 100 < wd) by omega) with a | ⟨a, b⟩ | ⟨a, b, c⟩
    all_goals
      clear hbad
      go_enter Tryd.func14, Tryd.ntmps14
      go_wp2
      go_ret
      rw [HP.out]
      exact ⟨rfl, Below.refl _ _⟩
  · have hp : padL n wd = List.replicate (wd.toNat - (Lib.itoa n).length) 48 ++ Lib.itoa n := by unfold padL; rw [if_neg hbad]
    have a : 0 ≤ n := by omega
    have b : 0 ≤ wd := by omega
    have c : wd ≤ 100 := by omega
    have hlen := itoa_len h0 h1
    obtain ⟨T, hT, hTl, hTs⟩ := arr_ex1 (Lib.itoa n)
    have IH := Lib.hid (fun w => textR_any n.natAbs n w (Nat.le_refl _) h0 h1)
    rw [← hT] at IH
    have hTb : T.size ≤ 20 := by omega
    rw [← hTs, ← hTl] at hp
    have HP := Lib.hid hp
    have hst : (⟨(List.replicate 0 48 ++ T.data.toList).toArray⟩ : ByteArray) = T := by rw [hTl, hT]; rfl
    have HST := Lib.hid hst
    clear hp hT hTl hTs hlen hbad hst
    obtain ⟨W, rfl⟩ : ∃ W : Nat, wd = W := ⟨wd.toNat, by omega⟩
    go_enter Tryd.func14, Tryd.ntmps14
    go_wp2_with (go_at_call 12; go_must (refine (IH.out _).mono ?_; rintro e w1 ⟨rfl, hb1⟩))
    go_loop [5] (fun v => ∃ (j : Nat) (X : ByteArray), v = .string X ∧ X.size = j + T.size ∧ (j + T.size ≤ W ∨ j = 0) ∧ Hid (X = ⟨(List.replicate j 48 ++ T.data.toList).toArray⟩)) (fun v => match v with | .string X => W - X.size | _ => 0)
    case atStart => exact ⟨0, T, rfl, by omega, .inr rfl, HST.out.symm⟩
    case round =>
      obtain ⟨j, X, rfl, hX, hj, hrel⟩ := hrel
      by_cases hlt : X.size < W
      · have hnx : (⟨#[48]⟩ ++ X : ByteArray) = ⟨(List.replicate (j + 1) 48 ++ T.data.toList).toArray⟩ := by rw [hrel.out, padR_step]
        have HN := Lib.hid hnx
        have hs1 : (⟨#[48]⟩ : ByteArray).size = 1 := rfl
        have hX' : X.size ≤ j + T.size := by omega
        have HX := Lib.hid hX
        clear hnx hrel hX
        go_wp2
        go_round
        case rel => exact ⟨j + 1, _, rfl, by rw [ByteArray.size_append, HX.out]; show 1 + _ = _; omega, by have := HX.out; omega, HN⟩
        case measure => simp; rw [show (⟨#[48]⟩ : ByteArray).size = 1 from rfl]; omega
      · have e1 : (W : Int).toNat - T.size = j := by omega
        have E1 := Lib.hid e1
        clear e1 hX
        go_wp2
        go_ret
        rw [HP.out, E1.out, ← hrel.out]
        exact ⟨rfl, hb1⟩
end Go.Proofs.YtjlbnboggcnamaaDoor
