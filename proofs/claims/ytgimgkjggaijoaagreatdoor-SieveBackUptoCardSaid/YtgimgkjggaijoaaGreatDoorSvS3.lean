/- Walks: the reference's comparison of scripts, where they are alike: commands. -/
import Derived.Test.YtgimgkjggaijoaaGreatDoorSvSa
namespace Go.Proofs.YtgimgkjggaijoaaGreatDoor
open Go.RowKit Pk Lx Sv

theorem CL.len {P : Int → Int → Prop} {l l' : List CmdT} (h : CL P l l') : l.length = l'.length := by
  induction l generalizing l' with
  | nil => cases h; rfl
  | cons t r ih => cases h with | cons h1 h2 => rw [List.length_cons, List.length_cons, ih h2]
theorem CL.at {P : Int → Int → Prop} : ∀ {l l' : List CmdT}, CL P l l' → ∀ (i : Nat) (h1 : i < l.length) (h2 : i < l'.length), CR P l[i] l'[i]
  | _, _, .cons h _, 0, _, _ => h
  | _, _, .cons _ h, i + 1, h1, h2 => CL.at h i (by simpa using h1) (by simpa using h2)
theorem CR.parts {P : Int → Int → Prop} {t t' : CmdT} (h : CR P t t') : cName t = cName t' ∧ cArgs t = cArgs t' ∧ TL P (cTests t) (cTests t') ∧ CL P (cBlock t) (cBlock t') ∧ cBr t = cBr t' ∧ P (cAt t) (cAt t') := by
  cases h with
  | mk ht hk ha => exact ⟨rfl, rfl, ht, hk, rfl, ha⟩
theorem wC_parts (t : CmdT) : wC t = 1 + (cName t).size + wAs (cArgs t) + wTs (cTests t) + wCs (cBlock t) := by cases t; unfold wC; rfl
theorem wCs_len (l : List CmdT) : l.length ≤ wCs l := by
  induction l with
  | nil => exact Nat.zero_le _
  | cons t r ih => show r.length + 1 ≤ wC t + wCs r; rw [wC_parts]; omega
theorem wCs_at : ∀ {l : List CmdT} (i : Nat) (h : i < l.length), wC l[i] ≤ wCs l
  | x :: r, 0, h => by show wC x ≤ wC x + wCs r; omega
  | x :: r, i + 1, h => by have := wCs_at (l := r) i (by simpa using h); show wC (r[i]'(by simpa using h)) ≤ wC x + wCs r; omega
set_option maxHeartbeats 8000000 in
set_option maxRecDepth 100000 in
theorem same_any (pl : Bool) : ∀ (m : Nat) (X Y : Nat → Prop) (va vb : Value) (a b : List CmdT) (w : World), CmdsAt w X va a → CmdsAt w Y vb b → CL (Pl pl) a b → wCs a < m → wCs a ≤ 100000000 → Calls Tryz.prog 11 #[va, vb, .bool pl] w (QT w)
  | 0, X, Y, va, vb, a, b, w, hA, hB, hab, hm, hs => absurd hm (Nat.not_lt_zero _)
  | m + 1, X, Y, va, vb, a, b, w, hA, hB, hab, hm, hs => by
    have ih := same_any pl m
    obtain ⟨R, hR, rl, re⟩ := hA.out
    obtain ⟨S, hS, sl, se⟩ := hB.out
    obtain ⟨pa, ca, rfl, hca, hA⟩ := rdCell hR
    obtain ⟨pb, cb, rfl, hcb, hB⟩ := rdCell hS
    have HA := Lib.hid hA
    have HB := Lib.hid hB
    have hl := CL.len hab
    have RL := Lib.hid rl
    have SL := Lib.hid (sl.trans hl.symm)
    have hla := wCs_len a
    rw [rl] at hca ⊢
    rw [sl, ← hl] at hcb ⊢
    have IH := Lib.hid ih
    have HL := Lib.hid hl
    clear hA hB hR hS ih hl rl sl
    go_enter Tryz.func11, Tryz.ntmps11
    go_wp2
    go_loopg [7] a.length (fun g iv wr => ∃ (i : Nat), i + g = a.length ∧ iv = .int .i64 i ∧ Drw w wr)
    case atStart => exact ⟨0, by omega, by first | rfl | trivial, Drw.refl _⟩
    case round =>
      obtain ⟨i, hig, rfl, hk⟩ := hrel
      by_cases hlt : i < a.length
      · rcases HA.out with h0 | ⟨ga, oa, rfl, hca2⟩
        · have rl := RL.out; rw [h0, List.length_nil] at rl; omega
        · rcases HB.out with h0 | ⟨gb, ob, rfl, hcb2⟩
          · have sl := SL.out; rw [h0, List.length_nil] at sl; omega
          · have iR : i < R.length := by have := RL.out; omega
            have iS : i < S.length := by have := SL.out; omega
            have ib : i < b.length := by have := HL.out; omega
            have a1 := ReadsR_at hk (hca2 i iR)
            have a2 := ReadsR_at hk (hcb2 i iS)
            obtain ⟨⟨e1, e2, e5⟩, e3, e4, e6⟩ := re i iR hlt
            obtain ⟨⟨f1, f2, f5⟩, f3, f4, f6⟩ := se i iS ib
            obtain ⟨k1, k2, k3, k4, k5, k6⟩ := CR.parts (CL.at hab i hlt ib)
            have hw := wCs_at i hlt
            rw [wC_parts] at hw
            generalize R[i] = r at *
            generalize S[i] = s at *
            generalize a[i] = t at *
            generalize b[i] = t' at *
            obtain ⟨rn, ⟨ap, an, ac⟩, ⟨tp, tn, tc⟩, ⟨kp, kn, kc⟩, rbr, ra⟩ := r
            obtain ⟨sn, ⟨bp, bn, bc⟩, ⟨up, un, uc⟩, ⟨lp, ln, lc⟩, sbr, sa⟩ := s
            have f1 : sn = cName t' := f1
            have f2 : sa = cAt t' := f2
            have f5 : sbr = cBr t' := f5
            have e1 : rn = cName t := e1
            have e2 : ra = cAt t := e2
            have e5 : rbr = cBr t := e5
            rw [← k1] at f1
            subst e1 e2 e5 f1 f2 f5
            have c0 : wr.cell? ⟨ga, oa + i * 6, none⟩ = some (.string (cName t)) := a1 0 rfl
            have c1 : wr.cell? ⟨ga, oa + i * 6 + 1, none⟩ = some (.slice ap an ac) := a1 1 rfl
            have c2 : wr.cell? ⟨ga, oa + i * 6 + 2, none⟩ = some (.slice tp tn tc) := a1 2 rfl
            have c3 : wr.cell? ⟨ga, oa + i * 6 + 3, none⟩ = some (.slice kp kn kc) := a1 3 rfl
            have c4 : wr.cell? ⟨ga, oa + i * 6 + 4, none⟩ = some (.bool (cBr t)) := a1 4 rfl
            have c5 : wr.cell? ⟨ga, oa + i * 6 + 5, none⟩ = some (.int .i64 (cAt t)) := a1 5 rfl
            have d0 : wr.cell? ⟨gb, ob + i * 6, none⟩ = some (.string (cName t)) := a2 0 rfl
            have d1 : wr.cell? ⟨gb, ob + i * 6 + 1, none⟩ = some (.slice bp bn bc) := a2 1 rfl
            have d2 : wr.cell? ⟨gb, ob + i * 6 + 2, none⟩ = some (.slice up un uc) := a2 2 rfl
            have d3 : wr.cell? ⟨gb, ob + i * 6 + 3, none⟩ = some (.slice lp ln lc) := a2 3 rfl
            have d4 : wr.cell? ⟨gb, ob + i * 6 + 4, none⟩ = some (.bool (cBr t)) := by rw [k5]; exact a2 4 rfl
            have d5 : wr.cell? ⟨gb, ob + i * 6 + 5, none⟩ = some (.int .i64 (cAt t')) := a2 5 rfl
            rw [← k2] at f3
            have hz : ∀ (Z : Nat → Prop) W, Drw w W → ∀ g, Z g → g < w.heap.size → W.heap[g]? = w.heap[g]? := fun Z W hW g _ _ => by obtain ⟨k, rfl⟩ := hW; rfl
            have hzs : ∀ W, Drw w W → w.heap.size ≤ W.heap.size := fun W hW => by obtain ⟨k, rfl⟩ := hW; exact Nat.le_refl _
            have hts := wTs_len (cTests t)
            have HS := Lib.hid (fun W hW => args2_any X Y (.slice ap an ac) (.slice bp bn bc) (cArgs t) W (e3.keeps (hz X W hW) (hzs W hW) fun _ h => h) (f3.keeps (hz Y W hW) (hzs W hW) fun _ h => h) (by have := wAs_len (cArgs t); omega) (shortA_of (by omega)))
            have HT := Lib.hid (fun W hW => tests2_any pl (wTs (cTests t) + 1) X Y (.slice tp tn tc) (.slice up un uc) (cTests t) (cTests t') W (e4.keeps (hz X W hW) (hzs W hW) fun _ h => h) (f4.keeps (hz Y W hW) (hzs W hW) fun _ h => h) k3 (by omega) (by omega))
            have HK := Lib.hid (fun W hW => IH.out X Y (.slice kp kn kc) (.slice lp ln lc) (cBlock t) (cBlock t') W (e6.keeps (hz X W hW) (hzs W hW) fun _ h => h) (f6.keeps (hz Y W hW) (hzs W hW) fun _ h => h) k4 (by omega) (by omega))
            have hpl : pl = false ∨ (pl = true ∧ cAt t = cAt t') := by
              cases pl with
              | false => exact .inl rfl
              | true => exact .inr ⟨rfl, k6 rfl⟩
            clear a1 a2 e3 e4 e6 f3 f4 f6 hca2 hcb2 hz hzs k3 k4 k6 hts
            have hsa : a.length ≤ 100000000 := Nat.le_trans hla hs
            clear re se HA HB IH RL SL HL hab hw hla hcb hs hm k1 k2 iR iS ib
            generalize cName t = nm at *
            clear k5
            generalize cBr t = br at *
            generalize cAt t = at1 at *
            generalize cAt t' = at2 at *
            rcases hpl with rfl | ⟨rfl, rfl⟩
            ·
              go_wp2
              go_quiet ((go_at_call 20; exact Calls.quiet_of (HS.out _ (hk.more _))))
              have hk := hk.more nq
              replace c0 : (wr.drewN nq).cell? _ = _ := c0
              replace c1 : (wr.drewN nq).cell? _ = _ := c1
              replace c2 : (wr.drewN nq).cell? _ = _ := c2
              replace c3 : (wr.drewN nq).cell? _ = _ := c3
              replace c4 : (wr.drewN nq).cell? _ = _ := c4
              replace c5 : (wr.drewN nq).cell? _ = _ := c5
              replace d0 : (wr.drewN nq).cell? _ = _ := d0
              replace d1 : (wr.drewN nq).cell? _ = _ := d1
              replace d2 : (wr.drewN nq).cell? _ = _ := d2
              replace d3 : (wr.drewN nq).cell? _ = _ := d3
              replace d4 : (wr.drewN nq).cell? _ = _ := d4
              replace d5 : (wr.drewN nq).cell? _ = _ := d5
              generalize wr.drewN nq = wq at *
              go_wp2
              go_quiet ((go_at_call 21; exact Calls.quiet_of (HT.out _ (hk.more _))))
              have hk := hk.more nq
              replace c0 : (wq.drewN nq).cell? _ = _ := c0
              replace c1 : (wq.drewN nq).cell? _ = _ := c1
              replace c2 : (wq.drewN nq).cell? _ = _ := c2
              replace c3 : (wq.drewN nq).cell? _ = _ := c3
              replace c4 : (wq.drewN nq).cell? _ = _ := c4
              replace c5 : (wq.drewN nq).cell? _ = _ := c5
              replace d0 : (wq.drewN nq).cell? _ = _ := d0
              replace d1 : (wq.drewN nq).cell? _ = _ := d1
              replace d2 : (wq.drewN nq).cell? _ = _ := d2
              replace d3 : (wq.drewN nq).cell? _ = _ := d3
              replace d4 : (wq.drewN nq).cell? _ = _ := d4
              replace d5 : (wq.drewN nq).cell? _ = _ := d5
              generalize wq.drewN nq = wq2 at *
              go_wp2
              go_quiet ((go_at_call 11; exact Calls.quiet_of (HK.out _ (hk.more _))))
              clear HS HT HK c1 c2 c3 d1 d2 d3
              go_wp2
              go_quiet (fail)
              clear c0 c4 c5 d0 d4 d5
              go_wp2
              go_roundg (a.length - (i + 1))
              case rel => exact ⟨i + 1, by omega, by go_num, hk.more _⟩
              case measure => omega
            ·
              go_wp2
              go_quiet ((go_at_call 20; exact Calls.quiet_of (HS.out _ (hk.more _))))
              have hk := hk.more nq
              replace c0 : (wr.drewN nq).cell? _ = _ := c0
              replace c1 : (wr.drewN nq).cell? _ = _ := c1
              replace c2 : (wr.drewN nq).cell? _ = _ := c2
              replace c3 : (wr.drewN nq).cell? _ = _ := c3
              replace c4 : (wr.drewN nq).cell? _ = _ := c4
              replace c5 : (wr.drewN nq).cell? _ = _ := c5
              replace d0 : (wr.drewN nq).cell? _ = _ := d0
              replace d1 : (wr.drewN nq).cell? _ = _ := d1
              replace d2 : (wr.drewN nq).cell? _ = _ := d2
              replace d3 : (wr.drewN nq).cell? _ = _ := d3
              replace d4 : (wr.drewN nq).cell? _ = _ := d4
              replace d5 : (wr.drewN nq).cell? _ = _ := d5
              generalize wr.drewN nq = wq at *
              go_wp2
              go_quiet ((go_at_call 21; exact Calls.quiet_of (HT.out _ (hk.more _))))
              have hk := hk.more nq
              replace c0 : (wq.drewN nq).cell? _ = _ := c0
              replace c1 : (wq.drewN nq).cell? _ = _ := c1
              replace c2 : (wq.drewN nq).cell? _ = _ := c2
              replace c3 : (wq.drewN nq).cell? _ = _ := c3
              replace c4 : (wq.drewN nq).cell? _ = _ := c4
              replace c5 : (wq.drewN nq).cell? _ = _ := c5
              replace d0 : (wq.drewN nq).cell? _ = _ := d0
              replace d1 : (wq.drewN nq).cell? _ = _ := d1
              replace d2 : (wq.drewN nq).cell? _ = _ := d2
              replace d3 : (wq.drewN nq).cell? _ = _ := d3
              replace d4 : (wq.drewN nq).cell? _ = _ := d4
              replace d5 : (wq.drewN nq).cell? _ = _ := d5
              generalize wq.drewN nq = wq2 at *
              go_wp2
              go_quiet ((go_at_call 11; exact Calls.quiet_of (HK.out _ (hk.more _))))
              clear HS HT HK c1 c2 c3 d1 d2 d3
              go_wp2
              go_quiet (fail)
              clear c0 c4 c5 d0 d4 d5
              go_wp2
              go_roundg (a.length - (i + 1))
              case rel => exact ⟨i + 1, by omega, by go_num, hk.more _⟩
              case measure => omega
      · go_wp2
        go_ret
        exact ⟨rfl, hk⟩
end Go.Proofs.YtgimgkjggaijoaaGreatDoor
