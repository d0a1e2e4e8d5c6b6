/- Walks: valid scripts. Walks: formatting of filter scripts. Walks: the laws of filter scripts: small. -/
import Derived.Test.YtgimgkjggaijoaaGreatDoorSvFi
import Derived.Test.YtgimgkjggaijoaaGreatDoorSvS3
import Derived.Test.YtgimgkjggaijoaaGreatDoorSvJK
import Derived.Test.YtgimgkjggaijoaaGreatDoorSvCm
namespace Go.Proofs.YtgimgkjggaijoaaGreatDoor
open Go.RowKit Pk Lx Sv

theorem rightsC_all (d : Nat) : ∀ (l : List CmdT), rightsC d l = l.all (rightC d)
  | [] => rfl
  | t :: r => by show (rightC d t && rightsC d r) = _; rw [List.all_cons, rightsC_all d r]
theorem rightC_may (d : Nat) (t : CmdT) : rightC d t = (mayB d (cName t) (cArgs t) (cTests t) && ((cBr t || (cBlock t).isEmpty) && rightsC (d + 1) (cBlock t))) := by cases t; rfl
def RightC (m : Nat) : Prop := ∀ (X : Nat → Prop) (v : Value) (l : List CmdT) (d : Nat) (w : World), CmdsAt w X v l → wCs l ≤ 100000000 → wCs l < m → d ≤ 9 → Calls Tryz.prog 22 #[v, .int .i64 d] w (BlRet (rightsC d l) w)
set_option maxHeartbeats 4000000 in
set_option maxRecDepth 100000 in
theorem right1_any (m : Nat) (hM : RightC m) (W : World) (X : Nat → Prop) (r : RCmd) (t : CmdT) (bx d : Nat) (h : CmdAt W X r t) (hx : IBox W bx d) (hw : wC t ≤ 100000000) (hm : wCs (cBlock t) < m) (hd : d ≤ 9) : Calls Tryz.prog 47 #[.agg (cmdL.enc r).toArray, .pointer (some ⟨bx, 0, none⟩)] W (BlRet (!rightC d t) W) := by
  obtain ⟨⟨a1, a2, a5⟩, e3, e4, e6⟩ := h
  rw [rightC_may]
  rw [wC_parts] at hw
  obtain ⟨rn, ⟨p, n, c⟩, ⟨p', n', c'⟩, ⟨pb, nb, cb⟩, rb, ra⟩ := r
  have e1 : rn = cName t := a1
  have e5 : rb = cBr t := a5
  clear a1 a2 a5
  have hnb : nb = (cBlock t).length := by
    obtain ⟨R, ⟨q, k, hq, -, -⟩, hl, -⟩ := e6.out
    injection hq with h1 h2 h3
    exact h2.trans hl
  have hemp : (cBlock t).isEmpty = decide (nb = 0) := by
    rw [hnb]
    cases cBlock t <;> simp
  subst e1
  have hb := (Below.refl W.heap.size W).alloc (Nat.le_refl _) (.cells #[.string (cName t), .slice p n c, .slice p' n' c', .slice pb nb cb, .bool rb, .int .i64 ra] 46)
  have hk : ∀ W2, Below (W.alloc (.cells #[.string (cName t), .slice p n c, .slice p' n' c', .slice pb nb cb, .bool rb, .int .i64 ra] 46)).heap.size (W.alloc (.cells #[.string (cName t), .slice p n c, .slice p' n' c', .slice pb nb cb, .bool rb, .int .i64 ra] 46)) W2 → (∀ g, X g → g < W.heap.size → W2.heap[g]? = W.heap[g]?) ∧ W.heap.size ≤ W2.heap.size := fun W2 hW2 => ⟨fun g _ hg => (hW2.block g (Nat.lt_of_lt_of_le hg hb.size)).trans (hb.block g hg), Nat.le_trans hb.size hW2.size⟩
  have hC := fun W2 hW2 => may_any (wTs (cTests t) + 1) X (cName t) (.slice p n c) (.slice p' n' c') (cArgs t) (cTests t) d W2 (e3.keeps (hk W2 hW2).1 (hk W2 hW2).2 fun _ h => h) (e4.keeps (hk W2 hW2).1 (hk W2 hW2).2 fun _ h => h) (by omega) (by omega) (by omega) (by omega) hd
  have hR := fun (hd8 : d + 1 ≤ 9) W2 hW2 => hM X (.slice pb nb cb) (cBlock t) (d + 1) W2 (e6.keeps (hk W2 hW2).1 (hk W2 hW2).2 fun _ h => h) (by omega) hm hd8
  push_cast at hR
  have kx := fun W2 hW2 => ((hx.below hb).below (w' := W2) hW2).cell
  have kc : ∀ W2, Below (W.alloc (.cells #[.string (cName t), .slice p n c, .slice p' n' c', .slice pb nb cb, .bool rb, .int .i64 ra] 46)).heap.size (W.alloc (.cells #[.string (cName t), .slice p n c, .slice p' n' c', .slice pb nb cb, .bool rb, .int .i64 ra] 46)) W2 → W2.cell? ⟨W.heap.size, 3, none⟩ = some (.slice pb nb cb) ∧ W2.cell? ⟨W.heap.size, 4, none⟩ = some (.bool rb) := fun W2 hW2 => by
    have := cell6 ((hW2.block W.heap.size (by simp)).trans (heap_alloc_new W _))
    exact ⟨this.2.2.2.1, this.2.2.2.2.1⟩
  have h8 : mayB d (cName t) (cArgs t) (cTests t) = true → d + 1 ≤ 9 := fun h => by have := (may_of h).1; omega
  have k0 := kx _ (Below.refl _ _)
  have HC := Lib.hid hC
  have HR := Lib.hid hR
  have HB := Lib.hid hb
  have HX := Lib.hid kx
  have HK := Lib.hid kc
  rw [hemp, ← e5]
  clear hnb hemp e5 e3 e4 e6 hb hC hR kx kc hw hm hx hk
  generalize mayB d (cName t) (cArgs t) (cTests t) = Z at *
  generalize rightsC (d + 1) (cBlock t) = Y at *
  generalize cName t = nm at *
  dsimp only [cmdL, SlV.val]
  cases Z with
  | false =>
    go_enter Tryz.func47, Tryz.ntmps47
    go_wp2_with fail
    refine (HC.out _ (Below.refl _ _)).mono ?_
    rintro e w1 ⟨rfl, hb1⟩
    obtain ⟨k3, k4⟩ := HK.out w1 hb1
    go_wp2
    go_ret
    exact ⟨rfl, HB.out.trans (hb1.mono HB.out.size)⟩
  | true =>
    have hd9 := h8 rfl
    clear h8
    cases rb with
    | true =>
      go_enter Tryz.func47, Tryz.ntmps47
      go_wp2_with fail
      refine (HC.out _ (Below.refl _ _)).mono ?_
      rintro e w1 ⟨rfl, hb1⟩
      obtain ⟨k3, k4⟩ := HK.out w1 hb1
      have k1 := HX.out w1 hb1
      go_wp2_with fail
      refine (HR.out (by omega) w1 hb1).mono ?_
      rintro e w2 ⟨rfl, hb2⟩
      go_wp2
      go_ret
      exact ⟨by cases Y <;> rfl, HB.out.trans ((hb1.trans (hb2.mono hb1.size)).mono HB.out.size)⟩
    | false =>
      by_cases h0 : nb = 0
      · have q1 : decide ((0 : Int) < (nb : Int)) = false := decide_eq_false (by omega)
        have q2 : decide (0 < nb) = false := decide_eq_false (by omega)
        rw [decide_eq_true h0]
        clear h0
        go_enter Tryz.func47, Tryz.ntmps47
        go_wp2_with fail
        refine (HC.out _ (Below.refl _ _)).mono ?_
        rintro e w1 ⟨rfl, hb1⟩
        obtain ⟨k3, k4⟩ := HK.out w1 hb1
        have k1 := HX.out w1 hb1
        go_wp2_with fail
        refine (HR.out (by omega) w1 hb1).mono ?_
        rintro e w2 ⟨rfl, hb2⟩
        go_wp2
        go_ret
        exact ⟨by cases Y <;> rfl, HB.out.trans ((hb1.trans (hb2.mono hb1.size)).mono HB.out.size)⟩
      · have q1 : decide ((0 : Int) < (nb : Int)) = true := decide_eq_true (by omega)
        have q2 : decide (0 < nb) = true := decide_eq_true (by omega)
        rw [decide_eq_false h0]
        clear h0
        go_enter Tryz.func47, Tryz.ntmps47
        go_wp2_with fail
        refine (HC.out _ (Below.refl _ _)).mono ?_
        rintro e w1 ⟨rfl, hb1⟩
        obtain ⟨k3, k4⟩ := HK.out w1 hb1
        have k1 := HX.out w1 hb1
        go_wp2
        go_ret
        exact ⟨by cases Y <;> rfl, HB.out.trans (hb1.mono HB.out.size)⟩
theorem right_any : ∀ m, RightC m
  | 0 => fun X v l d w hC hs hm hd => absurd hm (Nat.not_lt_zero _)
  | m + 1 => fun X v l d w hC hs hm hd => by
    have ih := right_any m
    obtain ⟨R, hR, rl, re⟩ := hC.out
    have hb := (Below.refl w.heap.size w).alloc (Nat.le_refl _) (.cells #[.int .i64 d] 3)
    have hbx : IBox (w.alloc (.cells #[.int .i64 d] 3)) w.heap.size d := heap_alloc_new w _
    have hCC : Calls Tryz.prog 46 #[v, .func (.func 47) #[] #[.pointer (some ⟨w.heap.size, 0, none⟩)]] (w.alloc (.cells #[.int .i64 d] 3)) (BlRet (!rightsC d l) (w.alloc (.cells #[.int .i64 d] 3))) := by
      rw [rightsC_all, ← any_not]
      refine conC X v R _ w.heap.size _ (hR.keeps (fun g _ hg => hb.block g hg) hb.size fun _ h => h) (by rw [List.length_map, rl]) (by rw [rl]; have := wCs_len l; omega) fun i h1 h2 W2 hW2 => ?_
      rw [List.getElem_map]
      rw [List.length_map] at h2
      have hat := (re i h1 h2).keeps (w' := W2) (Y := X) (fun g hX hg => (hW2.block g (Nat.lt_of_lt_of_le hg hb.size)).trans (hb.block g hg)) (Nat.le_trans hb.size hW2.size) fun _ h => h
      have h3 := wCs_at i h2
      have h4 := h3
      rw [wC_parts] at h4
      exact right1_any m ih W2 X _ _ w.heap.size d hat (hbx.below hW2) (by omega) (by omega) hd
    have HC := Lib.hid hCC
    have HB := Lib.hid hb
    generalize rightsC d l = Z at *
    clear hCC hb hbx re rl hR hC hm hs ih
    go_enter Tryz.func22, Tryz.ntmps22
    go_wp2_with fail
    refine HC.out.mono ?_
    rintro e w1 ⟨rfl, hb1⟩
    go_wp2
    go_ret
    exact ⟨by simp, HB.out.trans (hb1.mono HB.out.size)⟩
theorem rightP_any (X : Nat → Prop) (v : Value) (l : List CmdT) (w : World) (h : CmdsAt w X v l) (hs : wCs l ≤ 100000000) : Calls Tryz.prog 12 #[v] w (BlRet (rightsC 0 l) w) := by
  have hR := right_any (wCs l + 1) X v l 0 w h hs (by omega) (by omega)
  have hR : Calls Tryz.prog 22 #[v, .int .i64 0] w (BlRet (rightsC 0 l) w) := hR
  have HR := Lib.hid hR
  generalize rightsC 0 l = Z at *
  clear hR h hs
  go_enter Tryz.func12, Tryz.ntmps12
  go_wp2_with fail
  refine HR.out.mono ?_
  rintro e w1 ⟨rfl, hb1⟩
  go_wp2
  go_ret
  exact ⟨rfl, hb1⟩
end Go.Proofs.YtgimgkjggaijoaaGreatDoor
namespace Go.Proofs.YtgimgkjggaijoaaGreatDoor
open Go.RowKit Pk Lx Sv C1

theorem nC_parts (t : CmdT) : nC t = (cName t).size + nTs (cTests t) + nCs (cBlock t) := by cases t; rfl
theorem mC_parts (t : CmdT) : mC t = 1 + wAs (cArgs t) + mTs (cTests t) + mCs (cBlock t) := by cases t; rfl
theorem rC_parts (t : CmdT) : rC t ↔ ((∀ a ∈ cArgs t, argRng a) ∧ rTs (cTests t) ∧ rCs (cBlock t)) := by cases t; exact Iff.rfl
theorem rCs_at : ∀ {l : List CmdT} (i : Nat) (h : i < l.length), rCs l → rC l[i]
  | t :: r, 0, h, hr => hr.1
  | t :: r, i + 1, h, hr => rCs_at (l := r) i (by simpa using h) hr.2
theorem nCs_at : ∀ {l : List CmdT} (i : Nat) (h : i < l.length), nC l[i] ≤ nCs l
  | x :: r, 0, h => by show nC x ≤ nC x + nCs r; omega
  | x :: r, i + 1, h => by have := nCs_at (l := r) i (by simpa using h); show nC (r[i]'(by simpa using h)) ≤ nC x + nCs r; omega
theorem mCs_at : ∀ {l : List CmdT} (i : Nat) (h : i < l.length), mC l[i] ≤ mCs l
  | x :: r, 0, h => by show mC x ≤ mC x + mCs r; omega
  | x :: r, i + 1, h => by have := mCs_at (l := r) i (by simpa using h); show mC (r[i]'(by simpa using h)) ≤ mC x + mCs r; omega
theorem mCs_len (l : List CmdT) : l.length ≤ mCs l := by
  induction l with
  | nil => exact Nat.zero_le _
  | cons t r ih => show r.length + 1 ≤ mC t + mCs r; rw [mC_parts]; omega
theorem cmdW_parts (t : CmdT) : cmdW t = whatW (cName t) (cArgs t) (testsW (cTests t)) ++ (if cBr t = true then [32, 123, 10] ++ cmdsW (cBlock t) ++ [125, 10] else [59, 10]) := by cases t; rfl
def CmTo (l : List CmdT) (i : Nat) (acc Y : List UInt8) : Prop := acc ++ cmdsW (l.drop i) = Y
theorem cmTo_step {l : List CmdT} {i : Nat} {acc Y : List UInt8} (h : CmTo l i acc Y) (hi : i < l.length) : CmTo l (i + 1) (acc ++ cmdW l[i]) Y := by
  unfold CmTo at *
  rw [List.drop_eq_getElem_cons hi] at h
  show acc ++ cmdW l[i] ++ cmdsW (l.drop (i + 1)) = Y
  rw [List.append_assoc]
  exact h
theorem cmTo_end {l : List CmdT} {i : Nat} {acc Y : List UInt8} (h : CmTo l i acc Y) (hi : ¬ i < l.length) : acc = Y := by
  unfold CmTo at h
  rw [List.drop_eq_nil_of_le (by omega)] at h
  show acc = Y
  rw [← h]; exact (List.append_nil _).symm
theorem cmTo_len {l : List CmdT} {i : Nat} {acc Y : List UInt8} (h : CmTo l i acc Y) : acc.length ≤ Y.length := by
  unfold CmTo at h
  rw [← h, List.length_append]; omega
def WriteC (m : Nat) : Prop := ∀ (X : Nat → Prop) (v : Value) (l : List CmdT) (w : World), CmdsAt w X v l → rCs l → nCs l ≤ 100000000 → mCs l ≤ 1000000 → mCs l < m → TabN w → Calls Tryz.prog 15 #[v] w (StRet (cmdsW l) w)
set_option maxHeartbeats 8000000 in
set_option maxRecDepth 100000 in
theorem write_any : ∀ m, WriteC m
  | 0 => fun X v l w hC hr hn hm0 hm ht => absurd hm (Nat.not_lt_zero _)
  | m + 1 => fun X v l w hC hr hn hm0 hm ht => by
    have ih := write_any m
    obtain ⟨R, hR, rl, re⟩ := hC.out
    have hll := mCs_len l
    obtain ⟨pa, ca, rfl, hca, hRA⟩ := rdCell hR
    have hb0 := (Below.refl w.heap.size w).alloc (Nat.le_refl _) (.cells #[.pointer none, .slice none 0 0] 70)
    have hB0 := Bld.new w
    have hAt0 : CmTo l 0 [] (cmdsW l) := rfl
    have hYl : (cmdsW l).length ≤ 200000000 := by have := cmdsW_len l hr; omega
    have hCmd : ∀ i (h : i < l.length) (h2 : i < R.length), ∃ rn ap an ac tp tn tc kp kn kc rb ra, R[i] = ⟨rn, ⟨ap, an, ac⟩, ⟨tp, tn, tc⟩, ⟨kp, kn, kc⟩, rb, ra⟩ ∧ ∃ z1 z2 : List UInt8, cmdW l[i] = z1 ++ (if rb = true then [32, 123, 10] ++ z2 ++ [125, 10] else [59, 10]) ∧ z1.length ≤ 200000000 ∧ z2.length ≤ 200000000 ∧
        (∀ W, Below w.heap.size w W → Calls Tryz.prog 27 #[.string rn, .slice ap an ac, .slice tp tn tc] W (StRet z1 W)) ∧ ∀ W, Below w.heap.size w W → Calls Tryz.prog 15 #[.slice kp kn kc] W (StRet z2 W) := by
      intro i h h2
      obtain ⟨⟨e1, e2, e5⟩, e3, e4, e6⟩ := re i h2 h
      have h5 := nCs_at i h
      have h6 := mCs_at i h
      obtain ⟨h7, h8, h9⟩ := (rC_parts _).1 (rCs_at i h hr)
      rw [nC_parts] at h5
      rw [mC_parts] at h6
      generalize R[i] = r at *
      obtain ⟨rn, ⟨ap, an, ac⟩, ⟨tp, tn, tc⟩, ⟨kp, kn, kc⟩, rb, ra⟩ := r
      have e1 : rn = cName l[i] := e1
      have e5 : rb = cBr l[i] := e5
      refine ⟨rn, ap, an, ac, tp, tn, tc, kp, kn, kc, rb, ra, rfl, _, _, by rw [e5]; exact cmdW_parts _, ?_, ?_, fun W hW => ?_, fun W hW => ?_⟩
      · have k1 := whatW_len (cName l[i]) (cArgs l[i]) (testsW (cTests l[i])) h7
        have k2 := testsW_len _ h8
        omega
      · have k1 := cmdsW_len _ h9
        omega
      · rw [e1]
        exact what_any (mTs (cTests l[i]) + 1) X (cName l[i]) _ _ (cArgs l[i]) (cTests l[i]) W (e3.keeps (fun g _ hg => hW.block g hg) hW.size fun _ h => h) (e4.keeps (fun g _ hg => hW.block g hg) hW.size fun _ h => h) h7 h8 (by omega) (by omega) (by omega) (ht.later hW)
      · exact ih X _ (cBlock l[i]) W (e6.keeps (fun g _ hg => hW.block g hg) hW.size fun _ h => h) h9 (by omega) (by omega) (by omega) (ht.later hW)
    have HRA := Lib.hid hRA
    have HC := Lib.hid hCmd
    rw [rl] at hca ⊢
    have RL := Lib.hid rl
    generalize cmdsW l = Y at *
    clear hRA hCmd hR re hr ht hC ih rl
    go_enter Tryz.func15, Tryz.ntmps15
    go_wp2_with fail
    go_loopg [8] l.length (fun g iv wr => ∃ (i : Nat) (acc : List UInt8), i + g = l.length ∧ iv = .int .i64 i ∧ Bld wr w.heap.size w.heap.size acc ∧ Below w.heap.size w wr ∧ Hid (CmTo l i acc Y))
    case atStart => exact ⟨0, [], by omega, by first | rfl | trivial, hB0, hb0, hAt0⟩
    case round =>
      obtain ⟨i, acc, hig, rfl, hB, hbel, hrel⟩ := hrel
      clear hb0 hB0 hAt0
      have hz := hbel.size
      by_cases hlt : i < l.length
      · have iR : i < R.length := by have := RL.out; omega
        rcases HRA.out with h0 | ⟨ga, oa, rfl, hca2⟩
        · rw [h0, List.length_nil] at iR; omega
        · obtain ⟨rn, ap, an, ac, tp, tn, tc, kp, kn, kc, rb, ra, hRi, z1, z2, hz12, hz1, hz2, hc1, hc2⟩ := HC.out i hlt iR
          have hst := cmTo_step hrel.out hlt
          have hac := cmTo_len hrel.out
          have a1 : ∀ j u, (cmdL.enc R[i])[j]? = some u → wr.cell? ⟨ga, oa + i * 6 + j, none⟩ = some u := fun j u hu => cell_later hbel (hca2 i iR j u hu)
          rw [hRi] at a1
          rw [hz12] at hst
          have c0 : wr.cell? ⟨ga, oa + i * 6, none⟩ = some (.string rn) := a1 0 _ rfl
          have c1 : wr.cell? ⟨ga, oa + i * 6 + 1, none⟩ = some (.slice ap an ac) := a1 1 _ rfl
          have c2 : wr.cell? ⟨ga, oa + i * 6 + 2, none⟩ = some (.slice tp tn tc) := a1 2 _ rfl
          have c3 : wr.cell? ⟨ga, oa + i * 6 + 3, none⟩ = some (.slice kp kn kc) := a1 3 _ rfl
          have c4 : wr.cell? ⟨ga, oa + i * 6 + 4, none⟩ = some (.bool rb) := a1 4 _ rfl
          have c5 : wr.cell? ⟨ga, oa + i * 6 + 5, none⟩ = some (.int .i64 ra) := a1 5 _ rfl
          have hbW := hbel.alloc hz (.cells #[.string rn, .slice ap an ac, .slice tp tn tc, .slice kp kn kc, .bool rb, .int .i64 ra] 46)
          have hBW := hB.alloc (.cells #[.string rn, .slice ap an ac, .slice tp tn tc, .slice kp kn kc, .bool rb, .int .i64 ra] 46)
          have hnew := heap_alloc_new wr (.cells #[.string rn, .slice ap an ac, .slice tp tn tc, .slice kp kn kc, .bool rb, .int .i64 ra] 46)
          obtain ⟨A, hA, hAd, hAs⟩ := arr2 z1
          unfold StRet at hc1 hc2
          rw [← hA] at hc1
          have hA3 : A.size ≤ 200000000 := by omega
          have HC1 := Lib.hid (hc1 _ hbW)
          have HC2 := Lib.hid hc2
          have HST := Lib.hid hst
          clear a1 hca2 hc1 hc2 hRi hrel hst hz12 hA
          go_wp2_with fail
          refine HC1.out.mono ?_
          rintro e w2 ⟨rfl, hb2⟩
          have hbel2 := hbW.trans (hb2.mono hbW.size)
          have hn2 := (hb2.block wr.heap.size (by simp)).trans hnew
          go_wp2_with fail
          refine (ws w.heap.size w.heap.size acc A w2 (hBW.below hb2 (Nat.le_refl _)) (by omega) hbel2.size).mono ?_
          rintro e w3 ⟨rfl, hB3, hb3, hok⟩
          have hbel3 := hbel2.trans hb3
          have hn3 := hok _ _ hn2 (fun e => by injection e with e; have := hB.lt; omega) (fun c fz e => by injection e with _ e _; exact absurd e (by decide))
          obtain ⟨-, -, -, t3, t4, -⟩ := cell6 hn3
          rw [hAd] at hB3
          have hz3 := hbel3.size
          clear hn2 hnew hok hb2 hb3 hBW HC1
          cases rb with
          | false =>
            go_wp2_with fail
            refine (ws_to w.heap.size w.heap.size (acc ++ z1) ⟨#[59, 10]⟩ [59, 10] rfl w3 hB3 (by rw [List.length_append]; simp; omega) hz3).mono ?_
            rintro e w4 ⟨⟨v4, rfl⟩, hB4, hb4⟩
            have hst := HST.out
            rw [if_neg (by decide), ← List.append_assoc] at hst
            have HS2 := Lib.hid hst
            clear hst HST
            go_wp2_with fail
            go_roundg (l.length - (i + 1))
            case rel => exact ⟨i + 1, _, by omega, by go_num, hB4, hbel3.trans hb4, HS2.out⟩
            case measure => omega
          | true =>
            obtain ⟨D, hD, hDd, hDs⟩ := arr2 z2
            have hc2 := HC2.out w3 hbel3
            rw [← hD] at hc2
            have HC3 := Lib.hid hc2
            have hD3 : D.size ≤ 200000000 := by omega
            have hs : (⟨#[32, 123, 10]⟩ ++ D ++ ⟨#[125, 10]⟩ : ByteArray).data.toList = [32, 123, 10] ++ z2 ++ [125, 10] := by rw [bcat, bcat, toB_data, toB_data, hDd]
            have HS := Lib.hid hs
            have hst := HST.out
            rw [if_pos rfl, ← List.append_assoc] at hst
            have HS2 := Lib.hid hst
            have hWr := fun s hs w4 (hb4 : Below w3.heap.size w3 w4) => ws_to w.heap.size w.heap.size (acc ++ z1) s ([32, 123, 10] ++ z2 ++ [125, 10]) hs w4 (hB3.below hb4 (Nat.le_refl _)) (by rw [List.length_append, List.length_append, List.length_append]; simp; omega) (Nat.le_trans hz3 hb4.size)
            have HWr := Lib.hid hWr
            generalize [32, 123, 10] ++ z2 ++ [125, 10] = z3 at *
            clear hst HST HC2 hc2 hD hDd hDs hs hWr
            go_wp2_with fail
            refine HC3.out.mono ?_
            rintro e w4 ⟨rfl, hb4⟩
            go_wp2_with fail
            refine (HWr.out _ HS.out w4 hb4).mono ?_
            rintro e w5 ⟨⟨v5, rfl⟩, hB5, hb5⟩
            go_wp2_with fail
            go_roundg (l.length - (i + 1))
            case rel => exact ⟨i + 1, _, by omega, by go_num, hB5, (hbel3.trans (hb4.mono hz3)).trans hb5, HS2.out⟩
            case measure => omega
      · obtain rfl := cmTo_end hrel.out hlt
        clear hrel HC HRA
        have HF := Lib.hid (bstr w.heap.size w.heap.size acc wr hB hz)
        go_wp2_with fail
        refine HF.out.mono ?_
        rintro e w2 ⟨rfl, -, hb2, -⟩
        go_wp2
        go_ret
        exact ⟨rfl, hbel.trans hb2⟩
end Go.Proofs.YtgimgkjggaijoaaGreatDoor
namespace Sv
open Go Lx C1
def sm1 : ByteArray := ⟨#[73, 70, 32, 110, 111, 116, 32, 40, 104, 101, 97, 100, 101, 114, 32, 58, 73, 115, 32, 91, 34, 97, 34, 44, 32, 34, 98, 34, 93, 32, 50, 107, 41, 32, 123, 32, 115, 116, 111, 112, 59, 32, 125, 32, 35, 32, 120, 10, 107, 101, 101, 112, 59]⟩
def sm2 : ByteArray := ⟨#[107, 101, 101, 112]⟩
def sm3 : ByteArray := ⟨#[97, 32, 123, 32, 98, 32, 125]⟩
def smT1 : List (Tok × Nat) := [(⟨1, [105, 102], 0⟩, 0), (⟨1, [110, 111, 116], 0⟩, 3), (⟨5, [40], 0⟩, 7), (⟨1, [104, 101, 97, 100, 101, 114], 0⟩, 8), (⟨2, [105, 115], 0⟩, 15), (⟨5, [91], 0⟩, 19), (⟨4, [97], 0⟩, 20), (⟨5, [44], 0⟩, 23), (⟨4, [98], 0⟩, 25), (⟨5, [93], 0⟩, 28), (⟨3, [], 2048⟩, 30), (⟨5, [41], 0⟩, 32), (⟨5, [123], 0⟩, 34), (⟨1, [115, 116, 111, 112], 0⟩, 36), (⟨5, [59], 0⟩, 40), (⟨5, [125], 0⟩, 42), (⟨1, [107, 101, 101, 112], 0⟩, 48), (⟨5, [59], 0⟩, 52)]
def smT2 : List (Tok × Nat) := [(⟨1, [107, 101, 101, 112], 0⟩, 0)]
def smT3 : List (Tok × Nat) := [(⟨1, [97], 0⟩, 0), (⟨5, [123], 0⟩, 2), (⟨1, [98], 0⟩, 4), (⟨5, [125], 0⟩, 6)]
theorem smR1 : Run sm1.data.toList 0 smT1 none := runF_run 60 _ _ _ _ (by decide +kernel)
theorem smR2 : Run sm2.data.toList 0 smT2 none := runF_run 60 _ _ _ _ (by decide +kernel)
theorem smR3 : Run sm3.data.toList 0 smT3 none := runF_run 60 _ _ _ _ (by decide +kernel)
def smA : List ArgT := [⟨1, ⟨#[105, 115]⟩, 0, [], false⟩, ⟨3, ⟨#[]⟩, 0, [⟨#[97]⟩, ⟨#[98]⟩], true⟩, ⟨2, ⟨#[]⟩, 2048, [], false⟩]
def smH : TestT := .mk ⟨#[104, 101, 97, 100, 101, 114]⟩ smA [] 8
def smN : TestT := .mk ⟨#[110, 111, 116]⟩ [] [smH] 3
def smC0 : CmdT := .mk ⟨#[105, 102]⟩ [] [smN] [.mk ⟨#[115, 116, 111, 112]⟩ [] [] [] false 36] true 0
def smC1 : CmdT := .mk ⟨#[107, 101, 101, 112]⟩ [] [] [] false 48
theorem smP1 : parseR (sm1.size : Nat) 60 (smT1.map lexOf) = some (.ok [smC0, smC1]) := by kernel_rfl
theorem smP2 : parseR (sm2.size : Nat) 60 (smT2.map lexOf) = some (.error (2, 4)) := by kernel_rfl
theorem smP3 : parseR (sm3.size : Nat) 60 (smT3.map lexOf) = some (.error (2, 6)) := by kernel_rfl
theorem smRt : rightsC 0 [smC0, smC1] = true := by kernel_rfl
theorem smNum : Lib.itoa 2048 = [50, 48, 52, 56] := by
  show Lib.decDigits 2048 = _
  rw [dd_snoc (by decide), dd_snoc (by decide), dd_snoc (by decide), Lib.decDigits_one (by decide)]
  rfl
theorem smW : cmdsW [smC0, smC1] = [105, 102, 32, 110, 111, 116, 32, 104, 101, 97, 100, 101, 114, 32, 58, 105, 115, 32, 91, 34, 97, 34, 44, 32, 34, 98, 34, 93, 32, 50, 48, 52, 56, 32, 123, 10, 115, 116, 111, 112, 59, 10, 125, 10, 107, 101, 101, 112, 59, 10] := by
  have hn : argW ⟨2, ⟨#[]⟩, 2048, [], false⟩ = [32, 50, 48, 52, 56] := by
    show 32 :: numW 2048 = _
    have : numW 2048 = Lib.itoa 2048 := rfl
    rw [this, smNum]
  have ha : smA.flatMap argW = [32, 58, 105, 115, 32, 91, 34, 97, 34, 44, 32, 34, 98, 34, 93, 32, 50, 48, 52, 56] := by
    unfold smA
    rw [List.flatMap_cons, List.flatMap_cons, List.flatMap_cons, hn]
    rfl
  have hh : testW smH = [104, 101, 97, 100, 101, 114] ++ ([32, 58, 105, 115, 32, 91, 34, 97, 34, 44, 32, 34, 98, 34, 93, 32, 50, 48, 52, 56]) ++ [] := by
    show _ ++ smA.flatMap argW ++ [] = _
    rw [ha]
  have hn2 : testW smN = [110, 111, 116] ++ [] ++ (32 :: testW smH) := rfl
  have hc : cmdsW [smC0, smC1] = ([105, 102] ++ [] ++ (32 :: testW smN) ++ [32, 123, 10, 115, 116, 111, 112, 59, 10, 125, 10]) ++ [107, 101, 101, 112, 59, 10] := rfl
  rw [hc, hn2, hh]
  rfl
end Sv
namespace Go.Proofs.YtgimgkjggaijoaaGreatDoor
open Go.RowKit Pk Lx Sv

theorem TabN.of {w w' : World} (h : TabN w) (hb : Below w.heap.size w w') : TabN w' := h.later hb
/-- the cells that small reads -/
theorem small_cells {W : World} {X : Nat → Prop} {p : Option Addr} {n c : Nat} (h : CmdsAt W X (.slice p n c) [smC0, smC1]) :
    ∃ g o g2 o2 n2 g3 o3 n3 g4 o4 n4 pb nb pk ck, p = some ⟨g, o, none⟩ ∧ n = 2 ∧ W.cell? ⟨g, o, none⟩ = some (.string ⟨#[105, 102]⟩) ∧ W.cell? ⟨g, o + 2, none⟩ = some (.slice (some ⟨g2, o2, none⟩) 1 n2) ∧ W.cell? ⟨g, o + 3, none⟩ = some (.slice pb 1 nb) ∧ W.cell? ⟨g, o + 4, none⟩ = some (.bool true) ∧
      W.cell? ⟨g2, o2 + 2, none⟩ = some (.slice (some ⟨g3, o3, none⟩) 1 n3) ∧
      (W.cell? ⟨g3, o3, none⟩ = some (.string ⟨#[104, 101, 97, 100, 101, 114]⟩) ∧ W.cell? ⟨g3, o3 + 1, none⟩ = some (.slice (some ⟨g4, o4, none⟩) 3 n4) ∧ W.cell? ⟨g3, o3 + 2, none⟩ = some (.slice pk 0 ck) ∧ W.cell? ⟨g3, o3 + 3, none⟩ = some (.int .i64 8)) ∧
      W.cell? ⟨g4, o4 + 5 + 4, none⟩ = some (.bool true) ∧ W.cell? ⟨g4, o4 + 10 + 2, none⟩ = some (.int .i64 2048) ∧ 2 ≤ c ∧ 1 ≤ n2 ∧ 1 ≤ n3 ∧ 3 ≤ n4 := by
  obtain ⟨R, hR, rl, re⟩ := h.out
  obtain ⟨p', c', he, hc, hA⟩ := rdCell hR
  injection he with e1 e2 e3
  subst e1 e3
  have hR2 : R.length = 2 := rl
  rcases hA with h0 | ⟨g, o, rfl, hca⟩
  · rw [h0] at hR2; cases hR2
  obtain ⟨⟨k1, k2, k3⟩, k4, k5, k6⟩ := re 0 (by omega) (by decide)
  have a := hca 0 (by omega)
  generalize R[0] = r at *
  obtain ⟨rn, ⟨ap, an, ac⟩, ⟨tp, tn, tc⟩, ⟨bp, bn, bc⟩, rb, ra⟩ := r
  have k1 : rn = ⟨#[105, 102]⟩ := k1
  have k3 : rb = true := k3
  subst k1 k3
  have hbn : bn = 1 := by
    obtain ⟨R', ⟨q, k, hq, -, -⟩, hl, -⟩ := k6.out
    injection hq with h1 h2 h3
    exact h2.trans hl
  subst hbn
  obtain ⟨S, hS, sl, se⟩ := k5.out
  obtain ⟨p2, n2, he, hc2, hA2⟩ := rdCell hS
  have he : Value.slice tp tn tc = .slice p2 S.length n2 := he
  injection he with e1 e4 e3
  subst e1 e3
  have hS1 : S.length = 1 := sl
  rcases hA2 with h0 | ⟨g2, o2, rfl, hca2⟩
  · rw [h0] at hS1; cases hS1
  obtain ⟨-, -, -, k7⟩ := se 0 (by omega) (by decide)
  have b := hca2 0 (by omega)
  generalize S[0] = s at *
  obtain ⟨sn, ⟨sp, sm, sc⟩, ⟨kp, kn, kc⟩, sa⟩ := s
  obtain ⟨T, hT, tl, te⟩ := k7.out
  obtain ⟨p3, n3, he, hc3, hA3⟩ := rdCell hT
  have he : Value.slice kp kn kc = .slice p3 T.length n3 := he
  injection he with e1 e5 e3
  subst e1 e3
  have hT1 : T.length = 1 := tl
  rcases hA3 with h0 | ⟨g3, o3, rfl, hca3⟩
  · rw [h0] at hT1; cases hT1
  obtain ⟨m1, m2, m3, m4⟩ := te 0 (by omega) (by decide)
  have d := hca3 0 (by omega)
  generalize T[0] = t at *
  obtain ⟨un, ⟨up, um, uc⟩, ⟨lp, ln, lc⟩, ua⟩ := t
  have m1 : un = ⟨#[104, 101, 97, 100, 101, 114]⟩ := m1
  have m2 : ua = 8 := m2
  subst m1 m2
  have hln : ln = 0 := by
    obtain ⟨R', ⟨q, k, hq, -, -⟩, hl, -⟩ := m4.out
    injection hq with h1 h2 h3
    exact h2.trans hl
  subst hln
  obtain ⟨A, hA', al, ae⟩ := m3
  obtain ⟨p4, n4, he, hc4, hA4⟩ := rdCell hA'
  have he : Value.slice up um uc = .slice p4 A.length n4 := he
  injection he with e1 e6 e3
  subst e1 e3
  have hA1 : A.length = 3 := al
  rcases hA4 with h0 | ⟨g4, o4, rfl, hca4⟩
  · rw [h0] at hA1; cases hA1
  obtain ⟨-, -, -, q1, -⟩ := ae 1 (by omega) (by decide)
  obtain ⟨-, -, q2, -, -⟩ := ae 2 (by omega) (by decide)
  have f1 := hca4 1 (by omega) 4 _ rfl
  have f2 := hca4 2 (by omega) 2 _ rfl
  have q1 : A[1].ls = true := q1
  have q2 : A[2].n = 2048 := q2
  rw [q1] at f1
  rw [q2] at f2
  have e2 : n = 2 := e2.trans hR2
  have e4 : tn = 1 := e4.trans hS1
  have e5 : kn = 1 := e5.trans hT1
  have e6 : um = 3 := e6.trans hA1
  subst e2 e4 e5 e6
  rw [hR2] at hc
  rw [hS1] at hc2
  rw [hT1] at hc3
  rw [hA1] at hc4
  refine ⟨g, o, g2, o2, tc, g3, o3, kc, g4, o4, uc, bp, bc, lp, lc, rfl, rfl, ?_, ?_, ?_, ?_, ?_, ⟨?_, ?_, ?_, ?_⟩, f1, f2, hc, hc2, hc3, hc4⟩
  · exact a 0 _ rfl
  · exact a 2 _ rfl
  · exact a 3 _ rfl
  · exact a 4 _ rfl
  · exact b 2 _ rfl
  · exact d 0 _ rfl
  · exact d 1 _ rfl
  · exact d 2 _ rfl
  · exact d 3 _ rfl
theorem LW.at_ {w w' : World} (h : LW w) (hb : Below w.heap.size w w') : LW w' := h.later hb
set_option maxHeartbeats 8000000 in
set_option maxRecDepth 100000 in
theorem small_any (w : World) (hw : LW w) (ht : TabN w) : Calls Tryz.prog 8 #[] w (BlRet true w) := by
  have H1 := Lib.hid (fun w1 (hb : Below w.heap.size w w1) => parse_of sm1 smT1 60 _ smR1 (by decide) smP1 w1 (hw.later hb) (by decide))
  have H2 := Lib.hid (fun w1 (hb : Below w.heap.size w w1) => parse_of sm2 smT2 60 _ smR2 (by decide) smP2 w1 (hw.later hb) (by decide))
  have H3 := Lib.hid (fun w1 (hb : Below w.heap.size w w1) => parse_of sm3 smT3 60 _ smR3 (by decide) smP3 w1 (hw.later hb) (by decide))
  have HT := Lib.hid (fun w1 (hb : Below w.heap.size w w1) => ht.later hb)
  clear hw ht
  have tb : Below w.heap.size w w := Below.refl _ _
  go_enter Tryz.func8, Tryz.ntmps8
  go_wp2_with fail
  refine (H1.out _ tb).mono ?_
  rintro e w1 ⟨hb1, ⟨p, n, c⟩, rfl, hC⟩
  replace tb := tb.trans (hb1.mono tb.size)
  clear H1
  dsimp only [SlV.val] at hC ⊢
  go_wp2_with fail
  refine (H2.out _ tb).mono ?_
  rintro e w2 ⟨hb2, -, rfl⟩
  replace tb := tb.trans (hb2.mono tb.size)
  replace hC := hC.keeps (Y := Fresh w w1) (fun g _ hg => hb2.block g hg) hb2.size fun _ h => h
  clear H2
  go_wp2_with fail
  refine (H3.out _ tb).mono ?_
  rintro e w3 ⟨hb3, -, rfl⟩
  replace tb := tb.trans (hb3.mono tb.size)
  replace hC := hC.keeps (Y := Fresh w w1) (fun g _ hg => hb3.block g hg) hb3.size fun _ h => h
  clear H3
  obtain ⟨g, o, g2, o2, n2, g3, o3, n3, g4, o4, n4, pb, nb, pk, ck, rfl, rfl, a0, a2, a3, a4, b2, ⟨d0, d1, d2, d3⟩, f1, f2, hc, hn2, hn3, hn4⟩ := small_cells hC
  have hbx := fun cs => (Below.refl w3.heap.size w3).alloc (Nat.le_refl _) cs
  have y0 := fun cs => cell_later (hbx cs) a0
  have y4 := fun cs => cell_later (hbx cs) a4
  have y5 := fun cs => cell_later (hbx cs) f1
  have y6 := fun cs => cell_later (hbx cs) f2
  have hR := fun W (hb : Below w3.heap.size w3 W) => rightP_any (Fresh w w1) (.slice (some ⟨g, o, none⟩) 2 c) [smC0, smC1] W (hC.keeps (fun g _ hg => hb.block g hg) hb.size fun _ h => h) (by decide)
  rw [smRt] at hR
  have hW := fun W (hb : Below w3.heap.size w3 W) => write_any 20 (Fresh w w1) (.slice (some ⟨g, o, none⟩) 2 c) [smC0, smC1] W (hC.keeps (fun g _ hg => hb.block g hg) hb.size fun _ h => h) (rCs_of _ 0 smRt) (by decide) (by decide) (by decide) (HT.out W (tb.trans (hb.mono tb.size)))
  rw [smW] at hW
  unfold StRet at hW
  have e1 : toB [105, 102, 32, 110, 111, 116, 32, 104, 101, 97, 100, 101, 114, 32, 58, 105, 115, 32, 91, 34, 97, 34, 44, 32, 34, 98, 34, 93, 32, 50, 48, 52, 56, 32, 123, 10, 115, 116, 111, 112, 59, 10, 125, 10, 107, 101, 101, 112, 59, 10] = ⟨#[105, 102, 32, 110, 111, 116, 32, 104, 101, 97, 100, 101, 114, 32, 58, 105, 115, 32, 91, 34, 97, 34, 44, 32, 34, 98, 34, 93, 32, 50, 48, 52, 56, 32, 123, 10, 115, 116, 111, 112, 59, 10, 125, 10, 107, 101, 101, 112, 59, 10]⟩ := rfl
  rw [e1] at hW
  clear e1
  have HR := Lib.hid hR
  have HW := Lib.hid hW
  have HX := Lib.hid hbx
  clear hR hW hbx hC hb1 hb2 hb3 HT
  go_wp2_with fail
  refine (HR.out _ (HX.out _)).mono ?_
  rintro e w4 ⟨rfl, hb4⟩
  have hb5 := (HX.out (.cells #[.string ⟨#[104, 101, 97, 100, 101, 114]⟩, .slice (some ⟨g4, o4, none⟩) 3 n4, .slice pk 0 ck, .int .i64 8] 48)).trans (hb4.mono (HX.out _).size)
  go_wp2_with fail
  refine (HW.out _ hb5).mono ?_
  rintro e w5 ⟨rfl, hb6⟩
  go_wp2
  go_ret
  exact ⟨rfl, tb.trans ((hb5.trans (hb6.mono hb5.size)).mono tb.size)⟩
end Go.Proofs.YtgimgkjggaijoaaGreatDoor
