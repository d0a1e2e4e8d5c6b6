/- Walks: the law that Parse returns what the reference returns. -/
import Derived.Test.YtgimgkjggaijoaaGreatDoorSvL0
import Derived.Test.YtgimgkjggaijoaaGreatDoorRqG
namespace Go.Proofs.YtgimgkjggaijoaaGreatDoor
open Go.RowKit Pk Lx Sv

set_option maxHeartbeats 8000000 in
set_option maxRecDepth 100000 in
theorem tells_any (s : ByteArray) (w : World) (hw : LW w) (ht : TabN w) : Calls Tryz.prog 5 #[.string s] w (BlRet true w) := by
  have HSm := Lib.hid (small_any w hw ht)
  have HW := Lib.hid (fun w1 (hb : Below w.heap.size w w1) => hw.later hb)
  clear hw ht
  by_cases hs : 3000 < s.size
  · have k1 : decide ((3000 : Int) < (s.size : Int)) = true := decide_eq_true (by omega)
    clear hs
    have tb : Below w.heap.size w w := Below.refl _ _
    go_enter Tryz.func5, Tryz.ntmps5
    go_wp2_with fail
    refine HSm.out.mono ?_
    rintro e w1 ⟨rfl, hb1⟩
    replace tb := tb.trans (hb1.mono tb.size)
    go_wp2
    go_ret
    exact ⟨rfl, tb⟩
  · have k1 : decide ((3000 : Int) < (s.size : Int)) = false := decide_eq_false (by omega)
    obtain ⟨r, hr⟩ := pres_any s
    have hs1 : s.size ≤ 3000 := by omega
    have HP := Lib.hid (fun w1 (hb : Below w.heap.size w w1) => script_any s r hr (by omega) w1 (HW.out w1 hb))
    have HQ := Lib.hid (fun w1 => scriptQ_any s r hr (by omega) w1)
    have HR := Lib.hid hr
    clear hs hr
    cases r with
    | error e1 =>
      obtain ⟨e1, a1⟩ := e1
      have tb : Below w.heap.size w w := Below.refl _ _
      go_enter Tryz.func5, Tryz.ntmps5
      go_wp2_with fail
      refine HSm.out.mono ?_
      rintro e w1 ⟨rfl, hb1⟩
      replace tb := tb.trans (hb1.mono tb.size)
      go_wp2_with fail
      refine (HP.out w1 tb).mono ?_
      rintro e w2 ⟨hb2, hne, rfl⟩
      replace tb := tb.trans (hb2.mono tb.size)
      go_wp2_with fail
      refine (HQ.out w2).mono ?_
      rintro e w3 ⟨hb3, -, rfl⟩
      replace tb := tb.trans (hb3.mono tb.size)
      clear hne
      go_wp2_with fail
      refine (same_any true 1 (fun _ => False) (fun _ => False) (.slice none 0 0) (.slice none 0 0) [] [] w3 (CmdsAt.nil _ _) (CmdsAt.nil _ _) .nil (by decide) (by decide)).mono ?_
      rintro e w4 ⟨rfl, hd4⟩
      go_wp2
      go_ret
      exact ⟨rfl, tb.trans ((drw_below hd4).mono tb.size)⟩
    | ok a =>
      have hcl : CL (Pl true) a a := CL_refl (fun _ _ => rfl) a
      have hwa := (pres_w HR.out).2
      have tb : Below w.heap.size w w := Below.refl _ _
      go_enter Tryz.func5, Tryz.ntmps5
      go_wp2_with fail
      refine HSm.out.mono ?_
      rintro e w1 ⟨rfl, hb1⟩
      replace tb := tb.trans (hb1.mono tb.size)
      go_wp2_with fail
      refine (HP.out w1 tb).mono ?_
      rintro e w2 ⟨hb2, ⟨p2, n2, c2⟩, rfl, hC1⟩
      replace tb := tb.trans (hb2.mono tb.size)
      dsimp only [SlV.val] at hC1 ⊢
      go_wp2_with fail
      refine (HQ.out w2).mono ?_
      rintro e w3 ⟨hb3, ⟨p3, n3, c3⟩, rfl, hC2⟩
      replace tb := tb.trans (hb3.mono tb.size)
      replace hC1 := hC1.keeps (Y := Fresh w1 w2) (fun g _ hg => hb3.block g hg) hb3.size fun _ h => h
      dsimp only [SlV.val] at hC2 ⊢
      have HS := Lib.hid (same_any true (wCs a + 1) _ _ _ _ a a w3 hC1 hC2 hcl (by omega) (by omega))
      clear hC1 hC2 hcl hwa
      go_wp2_with fail
      refine HS.out.mono ?_
      rintro e w4 ⟨rfl, hd4⟩
      go_wp2
      go_ret
      exact ⟨rfl, tb.trans ((drw_below hd4).mono tb.size)⟩
end Go.Proofs.YtgimgkjggaijoaaGreatDoor
