/- Walks: a token in its source form, as the law of blanks writes it. -/
import Derived.Test.YtgimgkjggaijoaaGreatDoorSvJK
import Derived.Test.YtgimgkjggaijoaaGreatDoorSvBl
namespace Go.Proofs.YtgimgkjggaijoaaGreatDoor
open Go.RowKit Pk Lx Sv C1

theorem numB_len {u : Nat} (h : u ≤ 1099511627776) : (numB u).length ≤ 22 := by
  unfold numB
  split
  · rw [List.length_append, List.length_singleton]
    have := itoa_len ((u : Int) / 1024) (by omega) (by omega)
    omega
  · have := itoa_len (u : Int) (by omega) (by omega)
    omega
theorem wordT_len {t : Tok} (h : TokW t) : (wordT t).length ≤ 2 * t.t.length + 22 := by
  cases h with
  | name l h => show l.length ≤ 2 * l.length + 22; omega
  | tag l h => show (58 :: l).length ≤ 2 * l.length + 22; rw [List.length_cons]; omega
  | num u h => have := numB_len (u := u) (by obtain ⟨-, h | h⟩ := h <;> omega); show (numB u).length ≤ _; omega
  | text l => have := textL_len l; show (textL l).length ≤ 2 * l.length + 22; omega
  | mark c h => show 1 ≤ 2 * 1 + 22; omega
set_option maxHeartbeats 4000000 in
set_option maxRecDepth 100000 in
theorem wordB_any (t : Tok) (k : Int) (h : TokW t) (hl : t.t.length ≤ 1000000) (w : World) (ht : TabN w) : Calls Tryz.prog 16 #[.agg #[.int .i64 t.k, .string (toB t.t), .int .i64 t.n, .int .i64 k]] w (StRet (wordT t) w) := by
  have hA := fun cs => (Below.refl w.heap.size w).alloc (Nat.le_refl _) (.cells cs 41)
  cases h with
  | name l h =>
    have HB := Lib.hid (hA #[.int .i64 1, .string (toB l), .int .i64 0, .int .i64 k])
    clear hA h ht
    show Calls Tryz.prog 16 #[.agg #[.int .i64 1, .string (toB l), .int .i64 0, .int .i64 k]] w (StRet l w)
    go_enter Tryz.func16, Tryz.ntmps16
    go_wp2
    go_ret
    exact ⟨rfl, HB.out⟩
  | tag l h =>
    have HB := Lib.hid (hA #[.int .i64 2, .string (toB l), .int .i64 0, .int .i64 k])
    have hs : (toB l).size ≤ 1000000 := by rw [toB_size]; exact hl
    have HR := Lib.hid (show (⟨#[58]⟩ ++ toB l : ByteArray) = toB (58 :: l) from by rw [bcat, toB_data]; rfl)
    clear hA h ht hl
    show Calls Tryz.prog 16 #[.agg #[.int .i64 2, .string (toB l), .int .i64 0, .int .i64 k]] w (StRet (58 :: l) w)
    generalize toB l = S at *
    generalize 58 :: l = Z at *
    go_enter Tryz.func16, Tryz.ntmps16
    go_wp2
    go_ret
    exact ⟨by rw [← HR.out]; rfl, HB.out⟩
  | num u h =>
    have hu : u ≤ 1099511627776 := by obtain ⟨-, h | h⟩ := h <;> omega
    have hb := hA #[.int .i64 3, .string ⟨#[]⟩, .int .i64 u, .int .i64 k]
    have hT := text_any (u : Int) (w.alloc (.cells #[.int .i64 3, .string ⟨#[]⟩, .int .i64 u, .int .i64 k] 41)) (by omega) (by omega) (ht.later hb)
    have hT2 := text_any ((u : Int) / 1024) (w.alloc (.cells #[.int .i64 3, .string ⟨#[]⟩, .int .i64 u, .int .i64 k] 41)) (by omega) (by omega) (ht.later hb)
    have hq : (u : Int).tdiv 1024 = (u : Int) / 1024 := Int.tdiv_eq_ediv_of_nonneg (by omega)
    have hwr : IntKind.i64.wrap ((u : Int) / 1024) = (u : Int) / 1024 := w64 rfl (by omega) (by omega)
    have HB := Lib.hid hb
    show Calls Tryz.prog 16 #[.agg #[.int .i64 3, .string ⟨#[]⟩, .int .i64 u, .int .i64 k]] w (StRet (numB u) w)
    by_cases hb9 : 999999999999 < u
    · have k1 : decide ((999999999999 : Int) < (u : Int)) = true := decide_eq_true (by omega)
      have k2 : decide (999999999999 < u) = true := decide_eq_true hb9
      have hN : numB u = Lib.itoa ((u : Int) / 1024) ++ [107] := by unfold numB; rw [if_pos hb9]
      have hlen : (Lib.itoa ((u : Int) / 1024)).length ≤ 21 := itoa_len _ (by omega) (by omega)
      obtain ⟨A, hA', hAd, hAs⟩ := arr2 (Lib.itoa ((u : Int) / 1024))
      have hA2 : (⟨(Lib.itoa ((u : Int) / 1024)).toArray⟩ : ByteArray) = A := hA'.symm
      rw [hA2] at hT2
      have h21 : A.size ≤ 21 := by omega
      have HR := Lib.hid (show A ++ ⟨#[107]⟩ = toB (numB u) from by rw [bcat, hAd, hN])
      have HT := Lib.hid hT2
      clear hT hT2 hA hA' hAd hAs hA2 hN hlen hb9 h hl hb ht hu
      generalize numB u = Z at *
      generalize (u : Int) / 1024 = m at *
      go_enter Tryz.func16, Tryz.ntmps16
      go_wp2_with fail
      refine HT.out.mono ?_
      rintro e w1 ⟨rfl, hb1⟩
      go_wp2
      go_ret
      exact ⟨by rw [← HR.out]; rfl, HB.out.trans (hb1.mono HB.out.size)⟩
    · have k1 : decide ((999999999999 : Int) < (u : Int)) = false := decide_eq_false (by omega)
      have k2 : decide (999999999999 < u) = false := decide_eq_false hb9
      have hN : numB u = Lib.itoa (u : Int) := by unfold numB; rw [if_neg hb9]
      have HT := Lib.hid hT
      rw [hN]
      clear hT hT2 hA hN hb9 h hl hb ht hu hq hwr
      go_enter Tryz.func16, Tryz.ntmps16
      go_wp2_with fail
      refine HT.out.mono ?_
      rintro e w1 ⟨rfl, hb1⟩
      go_wp2
      go_ret
      exact ⟨rfl, HB.out.trans (hb1.mono HB.out.size)⟩
  | text l =>
    have hb := hA #[.int .i64 4, .string (toB l), .int .i64 0, .int .i64 k]
    have HB := Lib.hid hb
    have hX := lexText_any (toB l) (w.alloc (.cells #[.int .i64 4, .string (toB l), .int .i64 0, .int .i64 k] 41)) (by rw [toB_size]; exact hl)
    rw [toB_data] at hX
    have HX := Lib.hid hX
    clear hA ht hl hb hX
    show Calls Tryz.prog 16 #[.agg #[.int .i64 4, .string (toB l), .int .i64 0, .int .i64 k]] w (StRet (textL l) w)
    generalize toB l = S at *
    generalize textL l = Z at *
    go_enter Tryz.func16, Tryz.ntmps16
    go_wp2_with fail
    refine HX.out.mono ?_
    rintro e w1 ⟨rfl, hb1⟩
    go_wp2
    go_ret
    exact ⟨rfl, HB.out.trans (hb1.mono HB.out.size)⟩
  | mark c h =>
    have HB := Lib.hid (hA #[.int .i64 5, .string (toB [c]), .int .i64 0, .int .i64 k])
    clear hA h ht
    show Calls Tryz.prog 16 #[.agg #[.int .i64 5, .string (toB [c]), .int .i64 0, .int .i64 k]] w (StRet [c] w)
    generalize [c] = l at *
    go_enter Tryz.func16, Tryz.ntmps16
    go_wp2
    go_ret
    exact ⟨rfl, HB.out⟩
end Go.Proofs.YtgimgkjggaijoaaGreatDoor
