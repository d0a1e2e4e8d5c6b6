/- Walks: the law that Parse and Write undo each other. -/
import Derived.Test.YtgimgkjggaijoaaGreatDoorSvMy
import Derived.Test.YtgimgkjggaijoaaGreatDoorSvL0
namespace Sv
open Go Lx
mutual
theorem TR_any {P Q R : Int → Int → Prop} (h : ∀ x y, R x y) : ∀ {a b c : TestT}, TR P a b → TR Q b c → TR R a c
  | _, _, _, .mk hk _, .mk hk' _ => .mk (TL_any h hk hk') (h _ _)
theorem TL_any {P Q R : Int → Int → Prop} (h : ∀ x y, R x y) : ∀ {a b c : List TestT}, TL P a b → TL Q b c → TL R a c
  | _, _, _, .nil, .nil => .nil
  | _, _, _, .cons h1 h2, .cons h3 h4 => .cons (TR_any h h1 h3) (TL_any h h2 h4)
end
mutual
theorem CR_any {P Q R : Int → Int → Prop} (h : ∀ x y, R x y) : ∀ {a b c : CmdT}, CR P a b → CR Q b c → CR R a c
  | _, _, _, .mk ht hb _, .mk ht' hb' _ => .mk (TL_any h ht ht') (CL_any h hb hb') (h _ _)
theorem CL_any {P Q R : Int → Int → Prop} (h : ∀ x y, R x y) : ∀ {a b c : List CmdT}, CL P a b → CL Q b c → CL R a c
  | _, _, _, .nil, .nil => .nil
  | _, _, _, .cons h1 h2, .cons h3 h4 => .cons (CR_any h h1 h3) (CL_any h h2 h4)
end
mutual
theorem testW_TR {P : Int → Int → Prop} : ∀ {a b : TestT}, TR P a b → testW a = testW b
  | _, _, .mk hk _ => by unfold testW; rw [testsW_TL hk]
theorem testsW_TL {P : Int → Int → Prop} : ∀ {a b : List TestT}, TL P a b → testsW a = testsW b
  | _, _, .nil => rfl
  | _, _, .cons h1 h2 => by unfold testsW; rw [testW_TR h1, testsW_TL h2]
end
mutual
theorem cmdW_CR {P : Int → Int → Prop} : ∀ {a b : CmdT}, CR P a b → cmdW a = cmdW b
  | _, _, .mk ht hb _ => by unfold cmdW; rw [testsW_TL ht, cmdsW_CL hb]
theorem cmdsW_CL {P : Int → Int → Prop} : ∀ {a b : List CmdT}, CL P a b → cmdsW a = cmdsW b
  | _, _, .nil => rfl
  | _, _, .cons h1 h2 => by unfold cmdsW; rw [cmdW_CR h1, cmdsW_CL h2]
end
mutual
theorem wT_TR {P : Int → Int → Prop} : ∀ {a b : TestT}, TR P a b → wT a = wT b
  | _, _, .mk hk _ => by unfold wT; rw [wTs_TL hk]
theorem wTs_TL {P : Int → Int → Prop} : ∀ {a b : List TestT}, TL P a b → wTs a = wTs b
  | _, _, .nil => rfl
  | _, _, .cons h1 h2 => by unfold wTs; rw [wT_TR h1, wTs_TL h2]
end
mutual
theorem wC_CR {P : Int → Int → Prop} : ∀ {a b : CmdT}, CR P a b → wC a = wC b
  | _, _, .mk ht hb _ => by unfold wC; rw [wTs_TL ht, wCs_CL hb]
theorem wCs_CL {P : Int → Int → Prop} : ∀ {a b : List CmdT}, CL P a b → wCs a = wCs b
  | _, _, .nil => rfl
  | _, _, .cons h1 h2 => by unfold wCs; rw [wC_CR h1, wCs_CL h2]
end
end Sv
namespace Go.Proofs.YtgimgkjggaijoaaGreatDoor
open Go.RowKit Pk Lx Sv

/-- what is written of a valid tree is read again -/
theorem back_res (l : List CmdT) (h : rightsC 0 l = true) : ∃ c, PRes (toB (cmdsW l)) (.ok c) ∧ CL (fun _ _ => True) l c ∧ CL (fun _ _ => True) c l := by
  obtain ⟨tp, m, l', h1, h2, l0, h3, h4⟩ := back l h
  have hc : CL (fun _ _ => True) l l' := CL_any (fun _ _ => trivial) h3 h4
  refine ⟨l', .inr ⟨tp, m, by rw [toB_data]; exact h1, ?_⟩, hc, CL_map (fun _ _ _ => trivial) hc⟩
  rw [show (toB (cmdsW l)).size = (cmdsW l).length by unfold toB; simp [ByteArray.size]]
  exact h2
set_option maxHeartbeats 8000000 in
set_option maxRecDepth 100000 in
theorem back_any (X : Nat → Prop) (v : Value) (l : List CmdT) (s : ByteArray) (w : World) (hw : LW w) (ht : TabN w) (hA : CmdsAt w X v l) (hr : rCs l) (hz : wCs l ≤ 1048576) : Calls Tryz.prog 6 #[v, .string s] w (BlRet true w) := by
  have HSm := Lib.hid (small_any w hw ht)
  have HW := Lib.hid (fun w1 (hb : Below w.heap.size w w1) => hw.later hb)
  have HT := Lib.hid (fun w1 (hb : Below w.heap.size w w1) => ht.later hb)
  have HAl := Lib.hid (fun w1 (hb : Below w.heap.size w w1) => hA.keeps (fun g _ hg => hb.block g hg) hb.size fun _ h => h)
  have HFw := Lib.hid (fun w1 (hb : Below w.heap.size w w1) => few_any X v l w1 (HAl.out w1 hb) (by omega))
  obtain ⟨pv, nv, cv, hv⟩ : ∃ p n c, v = .slice p n c := by
    obtain ⟨R, ⟨p, c, h1, -⟩, -⟩ := hA.out
    exact ⟨p, _, c, h1⟩
  subst hv
  clear hw ht hA
  by_cases hf : manyCs 13 l ≤ 3000
  · have hm := manyCs_ge 13 l hf
    have hnm := wCs_nm l
    have hlen := cmdsW_len l hr
    rw [decide_eq_true hf] at HFw
    by_cases hs : 3000 < s.size
    · have k1 : decide ((3000 : Int) < (s.size : Int)) = true := decide_eq_true (by omega)
      clear hs hf hm hnm hlen
      have tb : Below w.heap.size w w := Below.refl _ _
      go_enter Tryz.func6, Tryz.ntmps6
      go_wp2_with fail
      refine HSm.out.mono ?_
      rintro e w1 ⟨rfl, hb1⟩
      replace tb := tb.trans (hb1.mono tb.size)
      go_wp2_with fail
      refine (HFw.out w1 tb).mono ?_
      rintro e w2 ⟨rfl, hb2⟩
      replace tb := tb.trans (hb2.mono tb.size)
      clear hb1 hb2
      go_wp2
      go_ret
      exact ⟨rfl, tb⟩
    · have k1 : decide ((3000 : Int) < (s.size : Int)) = false := decide_eq_false (by omega)
      obtain ⟨r2, hr2⟩ := pres_any s
      have hs1 : s.size ≤ 3000 := by omega
      have HPs := Lib.hid (fun w1 (hb : Below w.heap.size w w1) => script_any s r2 hr2 (by omega) w1 (HW.out w1 hb))
      have HR2 := Lib.hid hr2
      obtain ⟨A, hAe, hAd, hAs⟩ := arr2 (cmdsW l)
      have hAz : A.size ≤ 1200000 := by rw [hAs]; omega
      have HWl := Lib.hid (fun W (hb : Below w.heap.size w W) => show Calls Tryz.prog 15 #[.slice pv nv cv] W fun e w' => e = .returned (.string A) ∧ Below W.heap.size W w' from by
        have := write_any (mCs l + 1) _ _ l W (HAl.out W hb) hr (by omega) (by omega) (by omega) (HT.out W hb)
        rw [hAe]
        exact this)
      have HRl := Lib.hid (fun W (hb : Below w.heap.size w W) => rightP_any _ _ l W (HAl.out W hb) (by omega))
      clear hr2 hs hf hm hnm hlen hr
      by_cases hR : rightsC 0 l = true
      · obtain ⟨c0, hpc, hlc, hcl⟩ := back_res l hR
        rw [← hAe] at hpc
        have hwc : wCs c0 = wCs l := wCs_CL hcl
        have HPc := Lib.hid (fun W (hb : Below w.heap.size w W) => script_any A (.ok c0) hpc (by omega) W (HW.out W hb))
        have HC0 := Lib.hid (show CL (Pl false) c0 l from CL_any (fun _ _ h => by cases h) hcl (CL_refl (P := fun _ _ => True) (fun _ => trivial) l))
        rw [hR] at HRl
        have hwc2 : wCs c0 ≤ 1048576 := by omega
        clear hpc hlc hcl hwc hR hAe hAd hAs
        have tb : Below w.heap.size w w := Below.refl _ _
        go_enter Tryz.func6, Tryz.ntmps6
        go_wp2_with fail
        refine HSm.out.mono ?_
        rintro e w1 ⟨rfl, hb1⟩
        replace tb := tb.trans (hb1.mono tb.size)
        go_wp2_with fail
        refine (HFw.out w1 tb).mono ?_
        rintro e w2 ⟨rfl, hb2⟩
        replace tb := tb.trans (hb2.mono tb.size)
        clear hb1 hb2
        go_wp2_with fail
        refine (HWl.out w2 tb).mono ?_
        rintro e w3 ⟨rfl, hb3⟩
        replace tb := tb.trans (hb3.mono tb.size)
        go_wp2_with fail
        refine (HPc.out w3 tb).mono ?_
        rintro e w4 ⟨hb4, ⟨p4, n4, c4⟩, rfl, hC4⟩
        replace tb := tb.trans (hb4.mono tb.size)
        dsimp only [SlV.val] at hC4 ⊢
        go_wp2_with fail
        refine (HRl.out w4 tb).mono ?_
        rintro e w41 ⟨rfl, hb41⟩
        replace tb := tb.trans (hb41.mono tb.size)
        replace hC4 := hC4.keeps (Y := Fresh w3 w4) (fun g _ hg => hb41.block g hg) hb41.size fun _ h => h
        have HS4 := Lib.hid (same_any false (wCs c0 + 1) _ _ _ _ c0 l w41 hC4 (HAl.out w41 tb) HC0.out (by omega) (by omega))
        clear hC4 hb3 hb4 hb41
        go_wp2_with fail
        refine HS4.out.mono ?_
        rintro e w42 ⟨rfl, hd42⟩
        replace tb := tb.trans ((drw_below hd42).mono tb.size)
        clear hd42
        go_wp2_with fail
        refine (HPs.out _ tb).mono ?_
        cases r2 with
        | error e2 =>
          obtain ⟨e2, a2⟩ := e2
          have HN2 := Lib.hid (pres_err HR2.out).1
          rintro e w5 ⟨hb5, -, rfl⟩
          replace tb := tb.trans (hb5.mono tb.size)
          have q2 : (e2 != 0) = true := bne_iff_ne.2 HN2.out
          go_wp2_with fail
          go_ret
          exact ⟨rfl, tb⟩
        | ok b =>
          obtain ⟨hrb, hwb⟩ := pres_w HR2.out
          obtain ⟨c, hpc, hbc, hcb⟩ := back_res b hrb
          have hWb : cmdsW c = cmdsW b := cmdsW_CL hcb
          have hwc : wCs c = wCs b := wCs_CL hcb
          have hrc := (pres_w hpc).1
          obtain ⟨A2, hA2, hA2d, hA2s⟩ := arr2 (cmdsW b)
          rw [← hA2] at hpc
          have hnm := wCs_nm b
          have hnm2 := wCs_nm c
          have hlen := cmdsW_len b (rCs_of b 0 hrb)
          have hA2z : A2.size ≤ 400000 := by rw [hA2s]; omega
          have HPc := Lib.hid (fun W hb => script_any A2 (.ok c) hpc (by omega) W (HW.out W hb))
          have HB := Lib.hid (And.intro hrb (And.intro hrc (And.intro hWb (And.intro hwc hA2))))
          have hwb2 : wCs b ≤ 9000 := by omega
          have HCl := Lib.hid (show CL (Pl false) b c from CL_any (fun _ _ h => by cases h) hbc (CL_refl (P := fun _ _ => True) (fun _ => trivial) c))
          clear hrb hwb hpc hbc hcb hWb hrc hA2 hA2d hA2s hnm hnm2 hlen hwc
          rintro e w5 ⟨hb5, ⟨p5, n5, c5⟩, rfl, hC5⟩
          replace tb := tb.trans (hb5.mono tb.size)
          dsimp only [SlV.val] at hC5 ⊢
          have HAt := Lib.hid (fun W (hb : Below w5.heap.size w5 W) => hC5.keeps (fun g _ hg => hb.block g hg) hb.size fun _ h => h)
          have HT5 := Lib.hid (fun W (hb : Below w5.heap.size w5 W) => HT.out W (tb.trans (hb.mono tb.size)))
          have HWr := Lib.hid (fun W (hb : Below w5.heap.size w5 W) => show Calls Tryz.prog 15 #[.slice p5 n5 c5] W fun e w' => e = .returned (.string A2) ∧ Below W.heap.size W w' from by
            have hnm := wCs_nm b
            have := write_any (mCs b + 1) _ _ b W (HAt.out W hb) (rCs_of b 0 HB.out.1) (by omega) (by omega) (by omega) (HT5.out W hb)
            rw [HB.out.2.2.2.2]
            exact this)
          have HRt := Lib.hid (fun W (hb : Below w5.heap.size w5 W) => show Calls Tryz.prog 12 #[.slice p5 n5 c5] W fun e w' => e = .returned (.bool true) ∧ Below W.heap.size W w' from by
            have := rightP_any _ _ b W (HAt.out W hb) (by omega)
            rw [HB.out.1] at this
            exact this)
          clear hC5 hb5
          go_wp2_with fail
          refine (HWr.out w5 (Below.refl _ _)).mono ?_
          rintro e w6 ⟨rfl, hb6⟩
          have tb6 := tb.trans (hb6.mono tb.size)
          go_wp2_with fail
          refine (HPc.out w6 tb6).mono ?_
          rintro e w7 ⟨hb7, ⟨p7, n7, c7⟩, rfl, hC7⟩
          have hb57 := hb6.trans (hb7.mono hb6.size)
          have tb7 := tb6.trans (hb7.mono tb6.size)
          dsimp only [SlV.val] at hC7 ⊢
          have HAc := Lib.hid (fun W (hb : Below w7.heap.size w7 W) => hC7.keeps (fun g _ hg => hb.block g hg) hb.size fun _ h => h)
          clear hC7
          go_wp2_with fail
          refine (HRt.out w7 hb57).mono ?_
          rintro e w8 ⟨rfl, hb8⟩
          have hb58 := hb57.trans (hb8.mono hb57.size)
          go_wp2_with fail
          refine (same_any false (wCs b + 1) _ _ _ _ b c w8 (HAt.out w8 hb58) (HAc.out w8 hb8) HCl.out (by omega) (by omega)).mono ?_
          rintro e w9 ⟨rfl, hd9⟩
          have hb89 := drw_below hd9
          have hb79 := hb8.trans (hb89.mono hb8.size)
          have hb59 := hb58.trans (hb89.mono hb58.size)
          go_wp2_with fail
          have HWc := show Calls Tryz.prog 15 #[.slice p7 n7 c7] w9 fun e w' => e = .returned (.string A2) ∧ Below w9.heap.size w9 w' from by
            have hnm := wCs_nm c
            obtain ⟨-, hrc, hWb, hwc, hA2⟩ := HB.out
            have := write_any (mCs c + 1) _ _ c w9 (HAc.out w9 hb79) (rCs_of c 0 hrc) (by omega) (by omega) (by omega) (HT5.out w9 hb59)
            rw [hA2, ← hWb]
            exact this
          refine HWc.mono ?_
          rintro e w10 ⟨rfl, hb10⟩
          have hb5a := hb59.trans (hb10.mono hb59.size)
          go_wp2_with fail
          refine (HWr.out w10 hb5a).mono ?_
          rintro e w11 ⟨rfl, hb11⟩
          have hEq : (A2.toList == A2.toList) = true := beq_self_eq_true _
          have hb5b := hb5a.trans (hb11.mono hb5a.size)
          go_wp2
          go_ret
          exact ⟨rfl, tb.trans (hb5b.mono tb.size)⟩
      · obtain ⟨r1, hr1⟩ := pres_any A
        have HPa := Lib.hid (fun W (hb : Below w.heap.size w W) => script_any A r1 hr1 (by omega) W (HW.out W hb))
        rw [show rightsC 0 l = false by simpa using hR] at HRl
        clear hr1 hR hAe hAd hAs
        have tb : Below w.heap.size w w := Below.refl _ _
        go_enter Tryz.func6, Tryz.ntmps6
        go_wp2_with fail
        refine HSm.out.mono ?_
        rintro e w1 ⟨rfl, hb1⟩
        replace tb := tb.trans (hb1.mono tb.size)
        go_wp2_with fail
        refine (HFw.out w1 tb).mono ?_
        rintro e w2 ⟨rfl, hb2⟩
        replace tb := tb.trans (hb2.mono tb.size)
        clear hb1 hb2
        go_wp2_with fail
        refine (HWl.out w2 tb).mono ?_
        rintro e w3 ⟨rfl, hb3⟩
        replace tb := tb.trans (hb3.mono tb.size)
        go_wp2_with fail
        refine (HPa.out w3 tb).mono ?_
        cases r1 with
        | error e1 =>
          obtain ⟨e1, a1⟩ := e1
          rintro e w4 ⟨hb4, -, rfl⟩
          replace tb := tb.trans (hb4.mono tb.size)
          go_wp2_with fail
          refine (HRl.out w4 tb).mono ?_
          rintro e w41 ⟨rfl, hb41⟩
          replace tb := tb.trans (hb41.mono tb.size)
          clear hb3 hb4 hb41
          go_wp2_with fail
          refine (HPs.out _ tb).mono ?_
          cases r2 with
          | error e2 =>
            obtain ⟨e2, a2⟩ := e2
            have HN2 := Lib.hid (pres_err HR2.out).1
            rintro e w5 ⟨hb5, -, rfl⟩
            replace tb := tb.trans (hb5.mono tb.size)
            have q2 : (e2 != 0) = true := bne_iff_ne.2 HN2.out
            go_wp2_with fail
            go_ret
            exact ⟨rfl, tb⟩
          | ok b =>
            obtain ⟨hrb, hwb⟩ := pres_w HR2.out
            obtain ⟨c, hpc, hbc, hcb⟩ := back_res b hrb
            have hWb : cmdsW c = cmdsW b := cmdsW_CL hcb
            have hwc : wCs c = wCs b := wCs_CL hcb
            have hrc := (pres_w hpc).1
            obtain ⟨A2, hA2, hA2d, hA2s⟩ := arr2 (cmdsW b)
            rw [← hA2] at hpc
            have hnm := wCs_nm b
            have hnm2 := wCs_nm c
            have hlen := cmdsW_len b (rCs_of b 0 hrb)
            have hA2z : A2.size ≤ 400000 := by rw [hA2s]; omega
            have HPc := Lib.hid (fun W hb => script_any A2 (.ok c) hpc (by omega) W (HW.out W hb))
            have HB := Lib.hid (And.intro hrb (And.intro hrc (And.intro hWb (And.intro hwc hA2))))
            have hwb2 : wCs b ≤ 9000 := by omega
            have HCl := Lib.hid (show CL (Pl false) b c from CL_any (fun _ _ h => by cases h) hbc (CL_refl (P := fun _ _ => True) (fun _ => trivial) c))
            clear hrb hwb hpc hbc hcb hWb hrc hA2 hA2d hA2s hnm hnm2 hlen hwc
            rintro e w5 ⟨hb5, ⟨p5, n5, c5⟩, rfl, hC5⟩
            replace tb := tb.trans (hb5.mono tb.size)
            dsimp only [SlV.val] at hC5 ⊢
            have HAt := Lib.hid (fun W (hb : Below w5.heap.size w5 W) => hC5.keeps (fun g _ hg => hb.block g hg) hb.size fun _ h => h)
            have HT5 := Lib.hid (fun W (hb : Below w5.heap.size w5 W) => HT.out W (tb.trans (hb.mono tb.size)))
            have HWr := Lib.hid (fun W (hb : Below w5.heap.size w5 W) => show Calls Tryz.prog 15 #[.slice p5 n5 c5] W fun e w' => e = .returned (.string A2) ∧ Below W.heap.size W w' from by
              have hnm := wCs_nm b
              have := write_any (mCs b + 1) _ _ b W (HAt.out W hb) (rCs_of b 0 HB.out.1) (by omega) (by omega) (by omega) (HT5.out W hb)
              rw [HB.out.2.2.2.2]
              exact this)
            have HRt := Lib.hid (fun W (hb : Below w5.heap.size w5 W) => show Calls Tryz.prog 12 #[.slice p5 n5 c5] W fun e w' => e = .returned (.bool true) ∧ Below W.heap.size W w' from by
              have := rightP_any _ _ b W (HAt.out W hb) (by omega)
              rw [HB.out.1] at this
              exact this)
            clear hC5 hb5
            go_wp2_with fail
            refine (HWr.out w5 (Below.refl _ _)).mono ?_
            rintro e w6 ⟨rfl, hb6⟩
            have tb6 := tb.trans (hb6.mono tb.size)
            go_wp2_with fail
            refine (HPc.out w6 tb6).mono ?_
            rintro e w7 ⟨hb7, ⟨p7, n7, c7⟩, rfl, hC7⟩
            have hb57 := hb6.trans (hb7.mono hb6.size)
            have tb7 := tb6.trans (hb7.mono tb6.size)
            dsimp only [SlV.val] at hC7 ⊢
            have HAc := Lib.hid (fun W (hb : Below w7.heap.size w7 W) => hC7.keeps (fun g _ hg => hb.block g hg) hb.size fun _ h => h)
            clear hC7
            go_wp2_with fail
            refine (HRt.out w7 hb57).mono ?_
            rintro e w8 ⟨rfl, hb8⟩
            have hb58 := hb57.trans (hb8.mono hb57.size)
            go_wp2_with fail
            refine (same_any false (wCs b + 1) _ _ _ _ b c w8 (HAt.out w8 hb58) (HAc.out w8 hb8) HCl.out (by omega) (by omega)).mono ?_
            rintro e w9 ⟨rfl, hd9⟩
            have hb89 := drw_below hd9
            have hb79 := hb8.trans (hb89.mono hb8.size)
            have hb59 := hb58.trans (hb89.mono hb58.size)
            go_wp2_with fail
            have HWc := show Calls Tryz.prog 15 #[.slice p7 n7 c7] w9 fun e w' => e = .returned (.string A2) ∧ Below w9.heap.size w9 w' from by
              have hnm := wCs_nm c
              obtain ⟨-, hrc, hWb, hwc, hA2⟩ := HB.out
              have := write_any (mCs c + 1) _ _ c w9 (HAc.out w9 hb79) (rCs_of c 0 hrc) (by omega) (by omega) (by omega) (HT5.out w9 hb59)
              rw [hA2, ← hWb]
              exact this
            refine HWc.mono ?_
            rintro e w10 ⟨rfl, hb10⟩
            have hb5a := hb59.trans (hb10.mono hb59.size)
            go_wp2_with fail
            refine (HWr.out w10 hb5a).mono ?_
            rintro e w11 ⟨rfl, hb11⟩
            have hEq : (A2.toList == A2.toList) = true := beq_self_eq_true _
            have hb5b := hb5a.trans (hb11.mono hb5a.size)
            go_wp2
            go_ret
            exact ⟨rfl, tb.trans (hb5b.mono tb.size)⟩
        | ok c1 =>
          rintro e w4 ⟨hb4, ⟨p4, n4, c4⟩, rfl, -⟩
          replace tb := tb.trans (hb4.mono tb.size)
          dsimp only [SlV.val]
          go_wp2_with fail
          refine (HRl.out w4 tb).mono ?_
          rintro e w41 ⟨rfl, hb41⟩
          replace tb := tb.trans (hb41.mono tb.size)
          clear hb3 hb4 hb41
          go_wp2_with fail
          refine (HPs.out _ tb).mono ?_
          cases r2 with
          | error e2 =>
            obtain ⟨e2, a2⟩ := e2
            have HN2 := Lib.hid (pres_err HR2.out).1
            rintro e w5 ⟨hb5, -, rfl⟩
            replace tb := tb.trans (hb5.mono tb.size)
            have q2 : (e2 != 0) = true := bne_iff_ne.2 HN2.out
            go_wp2_with fail
            go_ret
            exact ⟨rfl, tb⟩
          | ok b =>
            obtain ⟨hrb, hwb⟩ := pres_w HR2.out
            obtain ⟨c, hpc, hbc, hcb⟩ := back_res b hrb
            have hWb : cmdsW c = cmdsW b := cmdsW_CL hcb
            have hwc : wCs c = wCs b := wCs_CL hcb
            have hrc := (pres_w hpc).1
            obtain ⟨A2, hA2, hA2d, hA2s⟩ := arr2 (cmdsW b)
            rw [← hA2] at hpc
            have hnm := wCs_nm b
            have hnm2 := wCs_nm c
            have hlen := cmdsW_len b (rCs_of b 0 hrb)
            have hA2z : A2.size ≤ 400000 := by rw [hA2s]; omega
            have HPc := Lib.hid (fun W hb => script_any A2 (.ok c) hpc (by omega) W (HW.out W hb))
            have HB := Lib.hid (And.intro hrb (And.intro hrc (And.intro hWb (And.intro hwc hA2))))
            have hwb2 : wCs b ≤ 9000 := by omega
            have HCl := Lib.hid (show CL (Pl false) b c from CL_any (fun _ _ h => by cases h) hbc (CL_refl (P := fun _ _ => True) (fun _ => trivial) c))
            clear hrb hwb hpc hbc hcb hWb hrc hA2 hA2d hA2s hnm hnm2 hlen hwc
            rintro e w5 ⟨hb5, ⟨p5, n5, c5⟩, rfl, hC5⟩
            replace tb := tb.trans (hb5.mono tb.size)
            dsimp only [SlV.val] at hC5 ⊢
            have HAt := Lib.hid (fun W (hb : Below w5.heap.size w5 W) => hC5.keeps (fun g _ hg => hb.block g hg) hb.size fun _ h => h)
            have HT5 := Lib.hid (fun W (hb : Below w5.heap.size w5 W) => HT.out W (tb.trans (hb.mono tb.size)))
            have HWr := Lib.hid (fun W (hb : Below w5.heap.size w5 W) => show Calls Tryz.prog 15 #[.slice p5 n5 c5] W fun e w' => e = .returned (.string A2) ∧ Below W.heap.size W w' from by
              have hnm := wCs_nm b
              have := write_any (mCs b + 1) _ _ b W (HAt.out W hb) (rCs_of b 0 HB.out.1) (by omega) (by omega) (by omega) (HT5.out W hb)
              rw [HB.out.2.2.2.2]
              exact this)
            have HRt := Lib.hid (fun W (hb : Below w5.heap.size w5 W) => show Calls Tryz.prog 12 #[.slice p5 n5 c5] W fun e w' => e = .returned (.bool true) ∧ Below W.heap.size W w' from by
              have := rightP_any _ _ b W (HAt.out W hb) (by omega)
              rw [HB.out.1] at this
              exact this)
            clear hC5 hb5
            go_wp2_with fail
            refine (HWr.out w5 (Below.refl _ _)).mono ?_
            rintro e w6 ⟨rfl, hb6⟩
            have tb6 := tb.trans (hb6.mono tb.size)
            go_wp2_with fail
            refine (HPc.out w6 tb6).mono ?_
            rintro e w7 ⟨hb7, ⟨p7, n7, c7⟩, rfl, hC7⟩
            have hb57 := hb6.trans (hb7.mono hb6.size)
            have tb7 := tb6.trans (hb7.mono tb6.size)
            dsimp only [SlV.val] at hC7 ⊢
            have HAc := Lib.hid (fun W (hb : Below w7.heap.size w7 W) => hC7.keeps (fun g _ hg => hb.block g hg) hb.size fun _ h => h)
            clear hC7
            go_wp2_with fail
            refine (HRt.out w7 hb57).mono ?_
            rintro e w8 ⟨rfl, hb8⟩
            have hb58 := hb57.trans (hb8.mono hb57.size)
            go_wp2_with fail
            refine (same_any false (wCs b + 1) _ _ _ _ b c w8 (HAt.out w8 hb58) (HAc.out w8 hb8) HCl.out (by omega) (by omega)).mono ?_
            rintro e w9 ⟨rfl, hd9⟩
            have hb89 := drw_below hd9
            have hb79 := hb8.trans (hb89.mono hb8.size)
            have hb59 := hb58.trans (hb89.mono hb58.size)
            go_wp2_with fail
            have HWc := show Calls Tryz.prog 15 #[.slice p7 n7 c7] w9 fun e w' => e = .returned (.string A2) ∧ Below w9.heap.size w9 w' from by
              have hnm := wCs_nm c
              obtain ⟨-, hrc, hWb, hwc, hA2⟩ := HB.out
              have := write_any (mCs c + 1) _ _ c w9 (HAc.out w9 hb79) (rCs_of c 0 hrc) (by omega) (by omega) (by omega) (HT5.out w9 hb59)
              rw [hA2, ← hWb]
              exact this
            refine HWc.mono ?_
            rintro e w10 ⟨rfl, hb10⟩
            have hb5a := hb59.trans (hb10.mono hb59.size)
            go_wp2_with fail
            refine (HWr.out w10 hb5a).mono ?_
            rintro e w11 ⟨rfl, hb11⟩
            have hEq : (A2.toList == A2.toList) = true := beq_self_eq_true _
            have hb5b := hb5a.trans (hb11.mono hb5a.size)
            go_wp2
            go_ret
            exact ⟨rfl, tb.trans (hb5b.mono tb.size)⟩
  · rw [decide_eq_false hf] at HFw
    clear hf
    have tb : Below w.heap.size w w := Below.refl _ _
    go_enter Tryz.func6, Tryz.ntmps6
    go_wp2_with fail
    refine HSm.out.mono ?_
    rintro e w1 ⟨rfl, hb1⟩
    replace tb := tb.trans (hb1.mono tb.size)
    go_wp2_with fail
    refine (HFw.out w1 tb).mono ?_
    rintro e w2 ⟨rfl, hb2⟩
    replace tb := tb.trans (hb2.mono tb.size)
    clear hb1 hb2
    go_wp2
    go_ret
    exact ⟨rfl, tb⟩
end Go.Proofs.YtgimgkjggaijoaaGreatDoor
