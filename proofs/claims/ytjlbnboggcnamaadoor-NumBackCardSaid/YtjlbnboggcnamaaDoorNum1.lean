/- Walks: the program's num: Text, Clamp, Pad, Hex. -/
import Derived.Test.YtjlbnboggcnamaaDoorUnhex
import Derived.Test.YtjlbnboggcnamaaDoorRef1
import Derived.Lib.AppendIntMem
namespace Go.Proofs.YtjlbnboggcnamaaDoor
open Go.RowKit Pk Hx C1

def Tab (w : World) : Prop := Lib.TabIs Tryd.prog w "internal/strconv.uint64pow10" .u64 Lib.pow10Tab
theorem Tab.later {w w' : World} (h : Tab w) (hb : Below w.heap.size w w') : Tab w' := Lib.tabBelow_of_tabIs h w' hb
theorem text_any (n : Int) (w : World) (h0 : -9223372036854775808 ≤ n) (h1 : n ≤ 9223372036854775807) (ht : Tab w) :
    Calls Tryd.prog 11 #[.int .i64 n] w fun e w' => e = .returned (.string ⟨(Lib.itoa n).toArray⟩) ∧ Below w.heap.size w w' := by
  have H := Lib.hid ht
  clear ht
  go_enter Tryd.func11, Tryd.ntmps11
  go_wp2_with (go_at_call 24; refine (Tryd.strconv_Itoa n h0 h1 _ H.out).mono ?_; rintro e w' ⟨rfl, k, os, rfl⟩)
  go_ret
  exact ⟨rfl, Lib.below_grow _ _ (Nat.le_refl _) _ _⟩
theorem rep_zero (x : Int) (w : World) (h0 : 0 ≤ x) (h1 : x ≤ 100) :
    Calls Tryd.prog 25 #[.string ⟨#[48]⟩, .int .i64 x] w fun e w' => e = .returned (.string ⟨(List.replicate x.toNat 48).toArray⟩) ∧ Below w.heap.size w w' := by
  obtain ⟨c, rfl⟩ : ∃ c : Nat, x = c := ⟨x.toNat, by omega⟩
  have := Tryd.strings_Repeat ⟨#[48]⟩ c w (by omega) (by show 1 * c ≤ _; omega)
  have e : ∀ c, Lib.repeatL [48] c = List.replicate c 48 := by
    intro c
    induction c with
    | zero => rfl
    | succ c ih => rw [Lib.repeatL, ih]; rfl
  have e2 : (⟨#[48]⟩ : ByteArray).data.toList = [48] := rfl
  rw [e2, e] at this
  exact this
theorem clamp_any (n lo hi : Int) (w : World) :
    Calls Tryd.prog 17 #[.int .i64 n, .int .i64 lo, .int .i64 hi] w fun e w' => e = .returned (.int .i64 (clampI n lo hi)) ∧ w = w' := by
  by_cases h1 : n < lo
  · rw [clampI_lo h1]
    go_enter Tryd.func17, Tryd.ntmps17
    go_wp2
    go_ret
    exact ⟨rfl, rfl⟩
  · by_cases h2 : hi < n
    · rw [clampI_hi h1 h2]
      go_enter Tryd.func17, Tryd.ntmps17
      go_wp2
      go_ret
      exact ⟨rfl, rfl⟩
    · rw [clampI_in h1 h2]
      go_enter Tryd.func17, Tryd.ntmps17
      go_wp2
      go_ret
      exact ⟨rfl, rfl⟩
theorem app_mk (a b : List UInt8) : (⟨a.toArray⟩ ++ ⟨b.toArray⟩ : ByteArray) = ⟨(a ++ b).toArray⟩ := by
  have : ∀ a b : ByteArray, a.data = b.data → a = b := fun a b h => by cases a; cases b; congr 1
  apply this
  rw [ByteArray.data_append]
  simp
set_option maxHeartbeats 1000000 in
theorem pad_any (n wd : Int) (w : World) (h0 : -9223372036854775808 ≤ n) (h1 : n ≤ 9223372036854775807) (ht : Tab w) :
    Calls Tryd.prog 13 #[.int .i64 n, .int .i64 wd] w fun e w' => e = .returned (.string ⟨(padL n wd).toArray⟩) ∧ Below w.heap.size w w' := by
  have H := Lib.hid ht
  clear ht
  by_cases hbad : n < 0 ∨ wd < 0 ∨ 100 < wd
  · have hp : padL n wd = [] := by unfold padL; rw [if_pos hbad]
    have HP := Lib.hid hp
    clear hp
    rcases (show n < 0 ∨ (0 ≤ n ∧ wd < 0) ∨ (0 ≤ n ∧ 0 ≤ wd ∧ 100 < wd) by omega) with a | ⟨a, b⟩ | ⟨a, b, c⟩
    all_goals
      clear hbad
      go_enter Tryd.func13, Tryd.ntmps13
      go_wp2
      go_ret
      rw [HP.out]
      exact ⟨rfl, Below.refl _ _⟩
  · have hp : padL n wd = List.replicate (wd.toNat - (Lib.itoa n).length) 48 ++ Lib.itoa n := by unfold padL; rw [if_neg hbad]
    have a : 0 ≤ n := by omega
    have b : 0 ≤ wd := by omega
    have c : wd ≤ 100 := by omega
    have hlen := itoa_len h0 h1
    obtain ⟨T, hT, hTl, hTs⟩ := arr_ex1 (Lib.itoa n)
    have IH0 := fun w ht => text_any n w h0 h1 ht
    rw [← hT] at IH0
    have IH := Lib.hid (IH0 w H.out)
    clear IH0
    have hTb : T.size ≤ 20 := by omega
    have hTn : (Lib.itoa n).length = T.size := hTs.symm
    rw [hTn] at hp
    have HP := Lib.hid hp
    have HT := Lib.hid hT
    clear hp hT hTl hTs hlen hTn hbad
    have hrep := fun w => rep_zero (max (wd - T.size) 0) w (by omega) (by omega)
    obtain ⟨Z, hZ, hZl, hZs⟩ := arr_ex1 (List.replicate (max (wd - T.size) 0).toNat 48)
    rw [← hZ] at hrep
    rw [List.length_replicate] at hZs
    have HR := Lib.hid hrep
    have HZ := Lib.hid hZ
    have hZb : Z.size ≤ 100 := by omega
    have e1 : wd.toNat - T.size = (max (wd - T.size) 0).toNat := by omega
    have E1 := Lib.hid e1
    clear hrep hZ hZl hZs e1
    go_enter Tryd.func13, Tryd.ntmps13
    go_wp2_with (first
      | (go_at_call 11; go_must (refine IH.out.mono ?_; rintro e w1 ⟨rfl, hb1⟩; have z1 := hb1.size))
      | (go_at_call 25; go_must (refine (HR.out _).mono ?_; rintro e w2 ⟨rfl, hb2⟩)))
    go_ret
    refine ⟨?_, hb1.trans (hb2.mono z1)⟩
    rw [HP.out, E1.out, ← app_mk, ← HT.out, ← HZ.out]; rfl

theorem hexes_at (i : Nat) (h : i < 16) : ((⟨#[48, 49, 50, 51, 52, 53, 54, 55, 56, 57, 97, 98, 99, 100, 101, 102]⟩ : ByteArray)[i]'h) = hexD (i : Int) := by
  have : ∀ i : Fin 16, ((⟨#[48, 49, 50, 51, 52, 53, 54, 55, 56, 57, 97, 98, 99, 100, 101, 102]⟩ : ByteArray)[i.val]'i.isLt) = hexD (i.val : Int) := by decide
  exact this ⟨i, h⟩
theorem hexes_atI (x : Int) (h0 : 0 ≤ x) (h1 : x < 16) : ((⟨#[48, 49, 50, 51, 52, 53, 54, 55, 56, 57, 97, 98, 99, 100, 101, 102]⟩ : ByteArray)[x.toNat]'(by show x.toNat < 16; omega)) = hexD x := by
  have := hexes_at x.toNat (by omega)
  rwa [Int.toNat_of_nonneg h0] at this
theorem hex_step {s : ByteArray} {k : Nat} {acc X : List UInt8} (h : Hid (acc ++ hexL (tl s k) = X)) (h0 : k < s.size) : Hid (acc ++ [hexD ((s[k].toNat : Int) / 16)] ++ [hexD ((s[k].toNat : Int) % 16)] ++ hexL (tl s (k + 1)) = X) := by
  have e := h.out
  rw [tl_cons s k h0, hexL] at e
  show _ = _
  rw [← e]; simp
theorem hex_end {s : ByteArray} {k : Nat} {acc : List UInt8} (h : Hid (acc ++ hexL (tl s k) = hexL (tl s 0))) (h0 : ¬ k < s.size) : acc = hexL s.data.toList := by
  have e := h.out
  rw [tl_end s k (by omega), tl_zero] at e
  simpa [hexL] using e
set_option maxHeartbeats 1000000 in
theorem hexP_any (s : ByteArray) (w : World) (hs : s.size ≤ 1000000) :
    Calls Tryd.prog 15 #[.string s] w fun e w' => e = .returned (.string ⟨(hexL s.data.toList).toArray⟩) ∧ Below w.heap.size w w' := by
  go_enter Tryd.func15, Tryd.ntmps15
  go_wp2
  go_loopw [7] (fun i wr => ∃ (k : Nat) (acc : List UInt8), i = .int .i64 k ∧ Bld wr w.heap.size w.heap.size acc ∧ Below w.heap.size w wr ∧ k ≤ s.size ∧ acc.length ≤ 2 * k ∧ Hid (acc ++ hexL (tl s k) = hexL (tl s 0))) (fun i _ => s.size - (intOf i).toNat)
  case atStart => exact ⟨0, [], rfl, Bld.new w, (Below.refl _ _).alloc (Nat.le_refl _) _, by omega, by simp, rfl⟩
  case round =>
    obtain ⟨k, acc, rfl, hB, hbel, hk, hal, hrel⟩ := hrel
    have hsz := hbel.size
    by_cases hlt : k < s.size
    · have hb := s[k].toNat_lt
      have hd := Lib.hid (hex_step hrel hlt)
      have e1 := and_u8_15 s[k].toNat (by omega) (by omega)
      have i1 : 0 ≤ (s[k].toNat : Int) / 16 := by omega
      have i2 : (s[k].toNat : Int) / 16 < 16 := by omega
      have i3 : 0 ≤ (s[k].toNat : Int) % 16 := by omega
      have i4 : (s[k].toNat : Int) % 16 < 16 := by omega
      have x1 := hexes_atI ((s[k].toNat : Int) / 16) i1 i2
      have x2 := hexes_atI ((s[k].toNat : Int) % 16) i3 i4
      clear hrel
      go_wp2_with (first
        | (go_at_call 26; refine (wbc _ _ _ _ _ hB2 (by simp; omega) (by omega)).mono ?_; rintro e w' ⟨rfl, hB3, hb3, -⟩)
        | (go_at_call 26; refine (wbc _ _ _ _ _ hB (by omega) (by omega)).mono ?_; rintro e w' ⟨rfl, hB2, hb2, -⟩; have hz2 := hb2.size))
      go_roundw
      case rel => exact ⟨k + 1, _, by go_num, hB3, (hbel.trans hb2).trans hb3, by omega, by simp; omega, hd.out⟩
      case measure => simp [intOf]; omega
    · have H := Lib.hid (hex_end hrel hlt)
      go_wp2_with (go_at_call 27; refine (bstr _ _ _ _ hB (by omega)).mono ?_; rintro e w' ⟨rfl, -, hb2, -⟩)
      go_ret
      rw [← H.out]
      exact ⟨rfl, hbel.trans hb2⟩
end Go.Proofs.YtjlbnboggcnamaaDoor
