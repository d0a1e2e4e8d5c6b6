/- Walks: the program's num: Text and Pad (for the dates). -/
import Derived.Test.YtlgnhngbmciaoaaDoorPlain1
import Derived.Test.YtlgnhngbmciaoaaDoorDtW
import Derived.Deep.QuietTactic
import Derived.BigQuiet
import Derived.IntWalk
import Derived.Test.YtlgnhngbmciaoaaDoorRows
import Derived.Test.YtlgnhngbmciaoaaDoorShelf
import Derived.Lib.AppendIntMem
namespace Go.Proofs.YtlgnhngbmciaoaaDoor
open Go.RowKit Pk Hx C1

theorem arr_ex1 (l : List UInt8) : ∃ A : ByteArray, A = ⟨l.toArray⟩ ∧ A.data.toList = l ∧ A.size = l.length := ⟨⟨l.toArray⟩, rfl, by simp, by simp [ByteArray.size]⟩
def Tab (w : World) : Prop := Lib.TabIs Tryd.prog w "internal/strconv.uint64pow10" .u64 Lib.pow10Tab
theorem Tab.later {w w' : World} (h : Tab w) (hb : Below w.heap.size w w') : Tab w' := Lib.tabBelow_of_tabIs h w' hb
theorem text_any (n : Int) (w : World) (h0 : -9223372036854775808 ≤ n) (h1 : n ≤ 9223372036854775807) (ht : Tab w) :
    Calls Tryd.prog 30 #[.int .i64 n] w fun e w' => e = .returned (.string ⟨(Lib.itoa n).toArray⟩) ∧ Below w.heap.size w w' := by
  have H := Lib.hid ht
  clear ht
  go_enter Tryd.func30, Tryd.ntmps30
  go_wp2_with (go_at_call 37; refine (Tryd.strconv_Itoa n h0 h1 _ H.out).mono ?_; rintro e w' ⟨rfl, k, os, rfl⟩)
  go_ret
  exact ⟨rfl, Lib.below_grow _ _ (Nat.le_refl _) _ _⟩
theorem rep_zero (x : Int) (w : World) (h0 : 0 ≤ x) (h1 : x ≤ 100) :
    Calls Tryd.prog 31 #[.string ⟨#[48]⟩, .int .i64 x] w fun e w' => e = .returned (.string ⟨(List.replicate x.toNat 48).toArray⟩) ∧ Below w.heap.size w w' := by
  obtain ⟨c, rfl⟩ : ∃ c : Nat, x = c := ⟨x.toNat, by omega⟩
  have := Tryd.strings_Repeat ⟨#[48]⟩ c w (by omega) (by show 1 * c ≤ _; omega)
  have e : ∀ c, Lib.repeatL [48] c = List.replicate c 48 := by
    intro c
    induction c with
    | zero => rfl
    | succ c ih => rw [Lib.repeatL, ih]; rfl
  have e2 : (⟨#[48]⟩ : ByteArray).data.toList = [48] := rfl
  rw [e2, e] at this
  exact this
theorem app_mk (a b : List UInt8) : (⟨a.toArray⟩ ++ ⟨b.toArray⟩ : ByteArray) = ⟨(a ++ b).toArray⟩ := by
  have : ∀ a b : ByteArray, a.data = b.data → a = b := fun a b h => by cases a; cases b; congr 1
  apply this
  rw [ByteArray.data_append]
  simp
set_option maxHeartbeats 1000000 in
theorem pad_any (n wd : Int) (w : World) (h0 : -9223372036854775808 ≤ n) (h1 : n ≤ 9223372036854775807) (ht : Tab w) :
    Calls Tryd.prog 16 #[.int .i64 n, .int .i64 wd] w fun e w' => e = .returned (.string ⟨(padL n wd).toArray⟩) ∧ Below w.heap.size w w' := by
  have H := Lib.hid ht
  clear ht
  by_cases hbad : n < 0 ∨ wd < 0 ∨ 100 < wd
  · have hp : padL n wd = [] := by unfold padL; rw [if_pos hbad]
    have HP := Lib.hid hp
    clear hp
    rcases (show n < 0 ∨ (0 ≤ n ∧ wd < 0) ∨ (0 ≤ n ∧ 0 ≤ wd ∧ 100 < wd) by omega) with a | ⟨a, b⟩ | ⟨a, b, c⟩
    all_goals
      clear hbad
      go_enter Tryd.func16, Tryd.ntmps16
      go_wp2
      go_ret
      rw [HP.out]
      exact ⟨rfl, Below.refl _ _⟩
  · have hp : padL n wd = List.replicate (wd.toNat - (Lib.itoa n).length) 48 ++ Lib.itoa n := by unfold padL; rw [if_neg hbad]
    have a : 0 ≤ n := by omega
    have b : 0 ≤ wd := by omega
    have c : wd ≤ 100 := by omega
    have hlen := itoa_len h0 h1
    obtain ⟨T, hT, hTl, hTs⟩ := arr_ex1 (Lib.itoa n)
    have IH0 := fun w ht => text_any n w h0 h1 ht
    rw [← hT] at IH0
    have IH := Lib.hid (IH0 w H.out)
    clear IH0
    have hTb : T.size ≤ 20 := by omega
    have hTn : (Lib.itoa n).length = T.size := hTs.symm
    rw [hTn] at hp
    have HP := Lib.hid hp
    have HT := Lib.hid hT
    clear hp hT hTl hTs hlen hTn hbad
    have hrep := fun w => rep_zero (max (wd - T.size) 0) w (by omega) (by omega)
    obtain ⟨Z, hZ, hZl, hZs⟩ := arr_ex1 (List.replicate (max (wd - T.size) 0).toNat 48)
    rw [← hZ] at hrep
    rw [List.length_replicate] at hZs
    have HR := Lib.hid hrep
    have HZ := Lib.hid hZ
    have hZb : Z.size ≤ 100 := by omega
    have e1 : wd.toNat - T.size = (max (wd - T.size) 0).toNat := by omega
    have E1 := Lib.hid e1
    clear hrep hZ hZl hZs e1
    go_enter Tryd.func16, Tryd.ntmps16
    go_wp2_with (first
      | (go_at_call 30; go_must (refine IH.out.mono ?_; rintro e w1 ⟨rfl, hb1⟩; have z1 := hb1.size))
      | (go_at_call 31; go_must (refine (HR.out _).mono ?_; rintro e w2 ⟨rfl, hb2⟩)))
    go_ret
    refine ⟨?_, hb1.trans (hb2.mono z1)⟩
    rw [HP.out, E1.out, ← app_mk, ← HT.out, ← HZ.out]; rfl
theorem pad2_d2 {n : Nat} (h : n < 100) : padL (n : Int) 2 = Dt.d2 n := by
  unfold padL
  rw [if_neg (by omega), Lib.itoa_nonneg]
  unfold Dt.d2 Dt.dg
  by_cases h1 : n < 10
  · rw [Lib.decDigits_one h1, show n / 10 = 0 by omega, show n % 10 = n by omega]; rfl
  · rw [Lib.decDigits_two h1 h]; rfl
theorem dec_step {n : Nat} (h : ¬ n < 10) : Lib.decDigits n = Lib.decDigits (n / 10) ++ [UInt8.ofNat (48 + n % 10)] := by rw [Lib.decDigits, dif_neg h]
theorem pad4_d4 {n : Nat} (h : n < 10000) : padL (n : Int) 4 = Dt.d4 n := by
  unfold padL
  rw [if_neg (by omega), Lib.itoa_nonneg]
  unfold Dt.d4 Dt.dg
  by_cases h1 : n < 10
  · rw [Lib.decDigits_one h1, show n / 1000 = 0 by omega, show n / 100 % 10 = 0 by omega, show n / 10 % 10 = 0 by omega, show n % 10 = n by omega]; rfl
  · by_cases h2 : n < 100
    · rw [Lib.decDigits_two h1 h2, show n / 1000 = 0 by omega, show n / 100 % 10 = 0 by omega, show n / 10 % 10 = n / 10 by omega]; rfl
    · by_cases h3 : n < 1000
      · rw [dec_step h1, Lib.decDigits_two (i := n / 10) (by omega) (by omega), show n / 1000 = 0 by omega, show n / 100 % 10 = n / 10 / 10 by omega]; rfl
      · rw [dec_step h1, dec_step (n := n / 10) (by omega), Lib.decDigits_two (i := n / 10 / 10) (by omega) (by omega), show n / 1000 = n / 10 / 10 / 10 by omega, show n / 100 % 10 = n / 10 / 10 % 10 by omega]; rfl
end Go.Proofs.YtlgnhngbmciaoaaDoor
