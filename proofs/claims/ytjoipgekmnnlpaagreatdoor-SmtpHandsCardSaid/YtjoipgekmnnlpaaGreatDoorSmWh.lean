/- Walks: chapter 22's law functions: whole. -/
import Derived.Test.YtjoipgekmnnlpaaGreatDoorSmLs
namespace Go.Proofs.YtjoipgekmnnlpaaGreatDoor
open Go.RowKit Go.Shelf Go.Lib Pk Sm

section
variable {G : Nat} {w wr w' : World} {sb most : Nat} {R0 R : Roles} {a : Acc} {mv : Value}
theorem DrI.fed (h : DrI G w wr sb most R0 R a mv) {s' : Whl} {o : List UInt8} (hs : Stp G wr sb most R w' s') (hg : Gd most s') (hw : o.length + Sm.wt s' ≤ 50000000) : ∃ R', DrI G w w' sb most R0 R' ⟨s', o, a.mails⟩ mv := by
  obtain ⟨R', s1, s2, s3⟩ := hs
  exact ⟨R', s1, h.G0, h.ext.trans (fun k hk => s2 k hk) h.frm.size, h.frm.trans s3 (in_ext h.ext), h.mls.step s2 s3, hg, hw, h.ml⟩
def R00 : Roles := fun _ => 0
theorem fr00 (h : Fr (In R00) w w') : Below w.heap.size w w' := ⟨h.os, h.tape, h.output, h.size, fun k hk => h.block k hk (fun e => e rfl)⟩
def lsB (ns : List ByteArray) : List (List UInt8) := ns.map fun x => x.data.toList
/-- what a whole run hands out -/
def WhoIs (w : World) (a : Acc) (e : Ending) (w' : World) : Prop := ∃ mv, e = .returned (.tuple #[.string (bt a.out), mv, .bool a.s.st.over]) ∧ MailsOut w.heap.size w' mv a.mails ∧ Below w.heap.size w w'
theorem wholeW_drop (most : Nat) (an : Nat → Int) (a : Acc) (ns : List ByteArray) (i : Nat) (h : i < ns.length) : wholeW most an 7000 a (lsB (ns.drop i)) = wholeW most an 7000 (chunkW most an 7000 a ns[i].data.toList) (lsB (ns.drop (i + 1))) := by
  rw [List.drop_eq_getElem_cons h]
  rfl
theorem wholeW_end (most : Nat) (an : Nat → Int) (a : Acc) (ns : List ByteArray) (i : Nat) (h : ns.length ≤ i) : wholeW most an 7000 a (lsB (ns.drop i)) = a := by
  rw [List.drop_eq_nil_of_le h]
  rfl
theorem sumZ_all (ns : List ByteArray) : ∀ i, sumZ (ns.take i) ≤ sumZ ns := by
  intro i
  unfold sumZ
  conv => rhs; rw [← List.take_append_drop i ns]
  rw [List.map_append, List.sum_append]
  omega
set_option maxHeartbeats 4000000 in
set_option maxRecDepth 100000 in
theorem whole_any (m0 : Int) (lv av : Value) (ns : List ByteArray) (ans : List Int) (hC : Ctx G w) (hL : StrIn w lv ns) (hl60 : ns.length ≤ 60) (hz : sumZ ns ≤ 6000) (hA : IntIn .i64 w.heap.size w av ans) :
    Calls Tryz.prog 23 #[.int .i64 m0, lv, av] w (WhoIs w (wholeW (clampM m0) (anL ans) 7000 ⟨begin0, [], []⟩ (lsB ns))) := by
  have hC' := Ctx.self hC
  have HN := Lib.hid (ses_new m0 hC')
  have hm := (clampM_le m0).2
  obtain ⟨⟨p, c, rfl, hc, hp⟩, -⟩ := hL
  obtain ⟨pA, cA, rfl, hcA, hA2⟩ := hA
  have HA2 := Lib.hid hA2
  have HP := Lib.hid hp
  obtain ⟨F, hF⟩ : ∃ F, F = wholeW (clampM m0) (anL ans) 7000 ⟨begin0, [], []⟩ (lsB ns) := ⟨_, rfl⟩
  rw [← hF]
  generalize clampM m0 = most at *
  have hF0 : Hid (wholeW most (anL ans) 7000 ⟨begin0, [], []⟩ (lsB (ns.drop 0)) = F) := hF.symm
  have HZ := Lib.hid (And.intro hl60 (And.intro hz hm))
  clear hC hC' hm hp hA2 hF hl60 hz
  go_enter Tryz.func23, Tryz.ntmps23
  go_wp2_with fail
  refine HN.out.mono ?_
  rintro e w1 ⟨sb, R1, rfl, hs1, hR1, hb1⟩
  have hI0 : Hid (DrI w.heap.size w w1 sb most R00 R1 ⟨begin0, [], []⟩ (.slice none 0 0)) := ⟨hs1, Nat.le_refl _, fun k hk => (by by_cases e : R1 k = 0; exact e; have := hR1 k e; omega), Fr.of_below hb1, MailsAt.nil _ _ _, gd0 _, by show 0 + 0 ≤ 50000000; decide, Nat.zero_le _⟩
  clear hs1 hR1 hb1
  have hO0 : Hid ((⟨#[]⟩ : ByteArray) = bt (Acc.mk begin0 [] []).out ∧ (Acc.mk begin0 [] []).mails.length ≤ 7000 * 0) := ⟨rfl, Nat.le_refl _⟩
  have hN0 : Hid ((Acc.mk begin0 [] []).out.length + Sm.wt (Acc.mk begin0 [] []).s ≤ 2000 * sumZ (ns.take 0)) := Nat.le_refl _
  go_wp2_with fail
  go_loopg [10, 11, 12] ns.length (fun g ov mv iv wr => ∃ (i : Nat) (a : Acc) (R : Roles) (O : ByteArray), i + g = ns.length ∧ iv = .int .i64 i ∧ ov = .string O ∧ True ∧ Hid (O = bt a.out ∧ a.mails.length ≤ 7000 * i) ∧ Hid (DrI w.heap.size w wr sb most R00 R a mv) ∧ Hid (a.out.length + Sm.wt a.s ≤ 2000 * sumZ (ns.take i)) ∧ Hid (wholeW most (anL ans) 7000 a (lsB (ns.drop i)) = F))
  case atStart => exact ⟨0, _, R1, ⟨#[]⟩, by omega, rfl, rfl, trivial, hO0, hI0, hN0, hF0⟩
  case round =>
    clear hI0 hO0 hN0 hF0 HN
    obtain ⟨i, a, R, O, hi, rfl, rfl, -, HO, hI, hN, hD⟩ := hrel
    by_cases hl : i < ns.length
    · have u1 : decide ((i : Int) < (ns.length : Int)) = true := decide_eq_true (by omega)
      have u3 : (i : Int) < (ns.length : Int) := by omega
      have u6 : IntKind.i64.wrap ((i : Int) + 1) = (i : Int) + 1 := w64 rfl (by omega) (by have := HZ.out; omega)
      rcases HP.out with hp | ⟨g, o, rfl, hcell⟩
      · rw [hp] at hl; cases hl
      · have hb := fr00 hI.out.frm
        have hx := cell_later hb (hcell i hl)
        obtain ⟨X, hX⟩ : ∃ X, X = ns[i] := ⟨_, rfl⟩
        rw [← hX] at hx
        have hzi := sumZ_take ns i hl
        have hza := sumZ_all ns (i + 1)
        rw [← hX] at hzi
        have hXl : X.data.toList.length = X.size := rfl
        have hXs : X.size ≤ 6000 := by have := HZ.out; omega
        have hwa := hN.out
        have hFd := feed_any hI.out.ses HZ.out.2.2 hI.out.gd X (by omega) (by have := HZ.out; omega)
        have hgf := hI.out.gd.feed X.data.toList
        have hwf := feed_wt HZ.out.2.2 hI.out.gd X.data.toList
        have hDc := hD.out
        rw [wholeW_drop _ _ _ _ _ hl, ← hX] at hDc
        obtain ⟨FA, hFA⟩ : ∃ FA, FA = feedW most a.s X.data.toList := ⟨_, rfl⟩
        have e0 : chunkW most (anL ans) 7000 a X.data.toList = drainW most (anL ans) 7000 ⟨FA.1, a.out ++ FA.2, a.mails⟩ := by rw [hFA]; rfl
        rw [e0] at hDc
        rw [← hFA] at hFd hgf hwf
        obtain ⟨F1, hF1⟩ : ∃ F1, F1 = drainW most (anL ans) 7000 ⟨FA.1, a.out ++ FA.2, a.mails⟩ := ⟨_, rfl⟩
        rw [← hF1] at hDc
        have hD0 : Hid (drainW most (anL ans) 7000 ⟨FA.1, a.out ++ FA.2, a.mails⟩ = F1) := hF1.symm
        obtain ⟨A, hA⟩ : ∃ A, A = bt FA.2 := ⟨_, rfl⟩
        unfold FedIs at hFd
        rw [← hA] at hFd
        have hAs : A.size = FA.2.length := by rw [hA]; exact (bt_ex FA.2).elim fun A h => by rw [← h.1]; exact h.2.2
        have hOs : O.size = a.out.length := by rw [HO.out.1]; exact (bt_ex a.out).elim fun A h => by rw [← h.1]; exact h.2.2
        have u8 : ¬ 9223372036854775807 < O.size + A.size := by have := HZ.out; omega
        have hwn : (a.out ++ FA.2).length + Sm.wt FA.1 ≤ 2000 * sumZ (ns.take (i + 1)) := by rw [List.length_append]; omega
        obtain ⟨N, hNN⟩ : ∃ N, N = 2000 * sumZ (ns.take (i + 1)) := ⟨_, rfl⟩
        rw [← hNN] at hwn
        have HG := Lib.hid (And.intro HZ.out.2.2 (And.intro hgf (And.intro hwn (And.intro (Nat.le_refl w.heap.size) (And.intro (show N ≤ 50000000 from by have := HZ.out; omega) (show 7000 * i + 7000 ≤ 1000000 from by have := HZ.out; omega))))))
        have HC := Lib.hid (And.intro hi (And.intro hl (And.intro hNN hDc)))
        have HA := Lib.hid (And.intro hA (And.intro HO.out.1 HO.out.2))
        have HFd := Lib.hid hFd
        clear hFd hgf hwf hwa hwn hNN hDc hF1 hFA e0 hA hAs hOs hzi hza hXl hXs hX hcell hb hi hl hD hN
        go_wp2_with fail
        refine HFd.out.mono ?_
        rintro e w2 ⟨rfl, hst⟩
        obtain ⟨R2, h2⟩ := hI.out.fed (o := a.out ++ FA.2) hst HG.out.2.1 (by have := HG.out; omega)
        have hI2 := Lib.hid h2
        have hO2 : Hid (O ++ A = bt (a.out ++ FA.2) ∧ 0 ≤ 0) := ⟨by rw [HA.out.1, HA.out.2.1, bt_app], Nat.le_refl _⟩
        have hN2 : Hid ((a.out ++ FA.2).length + Sm.wt FA.1 ≤ N) := HG.out.2.2.1
        have hml0 : Hid (a.mails.length ≤ 7000 * i) := HA.out.2.2
        clear hst h2 hI HO
        go_wp2_with fail
        go_loopg [10, 11, 14, 15] 7000 (fun g ov mv wv kv wr => ∃ (k : Nat) (a : Acc) (R : Roles) (O : ByteArray), k + g = 7000 ∧ a.mails.length ≤ 7000 * i + k ∧ kv = .int .i64 k ∧ ov = .string O ∧ wv = .bool a.s.st.waits ∧ Hid (O = bt a.out ∧ 0 ≤ 0) ∧ Hid (DrI w.heap.size w wr sb most R00 R a mv) ∧ Hid (a.out.length + Sm.wt a.s ≤ N) ∧ Hid (drainW most (anL ans) g a = F1))
        case atStart => exact ⟨0, ⟨FA.1, a.out ++ FA.2, a.mails⟩, R2, O ++ A, rfl, hml0.out, rfl, rfl, rfl, hO2, hI2, hN2, hD0⟩
        case round =>
          clear hI2 hN2 hO2 hml0 hD0 HFd hx
          obtain ⟨k, a, R, O, hk, hak, rfl, rfl, rfl, HO, hI, hN, hD⟩ := hrel
          obtain ⟨rsx, mx1, -, mx3⟩ := hI.out.mls
          obtain ⟨pmx, cmx, hmvx, -⟩ := (mx1.sees (Nat.le_refl _)).form
          have hrx : rsx.length = a.mails.length := mx3.len
          rw [hrx] at hmvx
          subst hmvx
          have hml := hI.out.ml
          clear mx1 mx3 hrx
          by_cases hk1 : k < 7000
          · have u1 : decide ((k : Int) < 7000) = true := decide_eq_true (by omega)
            cases hw : a.s.st.waits with
            | false =>
              have hFa : F1 = a := by rw [← hD.out]; exact drain_end _ _ _ _ (.inr hw)
              have HFin := Lib.hid (And.intro hak hk)
              have HFa := Lib.hid hFa.symm
              clear hFa hml
              go_wp2
              go_roundg (ns.length - (i + 1))
              case rel =>
                refine ⟨i + 1, a, R, O, by have := HC.out; omega, rfl, rfl, trivial, ?_, hI, ?_, ?_⟩
                · refine ⟨HO.out.1, ?_⟩
                  have h9 := HC.out; have h8 := HFin.out; omega
                · have h9 := HC.out.2.2.1; have h8 := hN.out; show _ ≤ _; rw [← h9]; exact h8
                · rw [HFa.out]; exact HC.out.2.2.2
              case measure => have := HC.out; omega
            | true =>
              have u6 : IntKind.i64.wrap ((k : Int) + 1) = (k : Int) + 1 := w64 rfl (by omega) (by omega)
              have HK := Lib.hid (And.intro hk (And.intro hk1 (And.intro hw hak)))
              by_cases hlt : a.mails.length < ans.length
              · have u2 : decide ((a.mails.length : Int) < (ans.length : Int)) = true := decide_eq_true (by omega)
                have u3 : (a.mails.length : Int) < (ans.length : Int) := by omega
                rcases HA2.out with hA | ⟨gA, oA, hgA, rfl, hcA2⟩
                · rw [hA] at hlt; cases hlt
                · have hcell : wr.cell? ⟨gA, oA + a.mails.length, none⟩ = some (.int .i64 ans[a.mails.length]) := (World.cell?_of_block (hI.out.frm.block gA (by have := HG.out.2.2.2.1; omega) (fun e => e rfl))).trans (hcA2 _ hlt)
                  have e1 : ans[a.mails.length] = anL ans a.mails.length := by unfold anL; rw [List.getD_eq_getElem?_getD, List.getElem?_eq_getElem hlt]; rfl
                  rw [e1] at hcell
                  clear e1 hcA2 hlt hk hk1 hw hml
                  have hwl := hI.out.wt
                  have hbl : (a.s.st.body.getD []).length ≤ 100000000 := by unfold Sm.wt wtS at hwl; omega
                  have HM := Lib.hid (mldAgg hI.out.ses hI.out.gd.inv hbl)
                  clear hbl hwl
                  go_wp2_with fail
                  refine HM.out.mono ?_
                  rintro e w2 ⟨rf, rp, rn, rc, rb, rfl, hr1, hs1, f1⟩
                  obtain ⟨rs, m1, m2, m3⟩ := hI.out.mls.step (Ext.refl _ _) f1
                  have hml := hI.out.ml
                  have hrl : rs.length = a.mails.length := m3.len
                  have hmlt : ∀ k, (Value.slice pmx a.mails.length cmx).ownBlock = some k → k < wr.heap.size := by
                    obtain ⟨rs0, n1, -, -⟩ := hI.out.mls
                    exact fun k e => (World.ownsRow.lt n1 k e).2
                  have hwz : w.heap.size ≤ w2.heap.size := Nat.le_trans hI.out.frm.size f1.size
                  have HRl := Lib.hid (And.intro hrl (And.intro hml hwz))
                  have HMX := Lib.hid (And.intro m1 (And.intro m2 (And.intro m3 (And.intro hs1 (And.intro f1 (And.intro hr1 hmlt))))))
                  clear m1 m2 m3 hs1 f1 hr1 hmlt hrl hml hwz
                  go_wp2_with (first
                    | (at_builtin; refine append_n _ rfl (.tmp 58) (.tmp 61) envG rfl w.heap.size (.slice pmx a.mails.length cmx) rs rfl (HMX.out.1.alloc _) ⟨w2.heap.size, 0, none⟩ [(⟨rf, rp, rn, rc, rb⟩ : RE)] 1 1 rfl rfl (cells_new w2 [.string rf, .slice rp rn rc, .string rb] _) (by have := HRl.out; omega) (by have := HRl.out; omega) (by have := HRl.out; simp; omega) ?_; intro mv3 w3 hown3 hg3 hn3; have hDM := hI.out.mail HMX.out.1 HMX.out.2.1 HMX.out.2.2.1 HMX.out.2.2.2.1 HMX.out.2.2.2.2.1 HMX.out.2.2.2.2.2.1 HMX.out.2.2.2.2.2.2 ((Below.refl _ _).alloc (Nat.le_refl _) _) hown3 hg3 hn3; have HDM := Lib.hid hDM; clear hDM hown3 hg3 hn3)
                    | fail)
                  obtain ⟨AW, hAW⟩ : ∃ AW, AW = answerW a.s.st (anL ans a.mails.length) := ⟨_, rfl⟩
                  obtain ⟨FW, hFW⟩ : ∃ FW, FW = feedW most ⟨AW.1, a.s.rest, a.s.kept⟩ [] := ⟨_, rfl⟩
                  have hrnd : rndW most (anL ans) a = ⟨FW.1, a.out ++ AW.2 ++ FW.2, a.mails ++ [envOf a.s.st]⟩ := by unfold rndW; rw [hFW, hAW]
                  obtain ⟨r1, r2⟩ := rnd_gd HG.out.1 (anL ans) hI.out.gd hN.out
                  rw [hrnd] at r1 r2
                  have hAn := ses_answer HDM.out.ses (anL ans a.mails.length)
                  have hga := hI.out.gd.answer (anL ans a.mails.length)
                  have hwa := answer_wt' (s := a.s) (anL ans a.mails.length)
                  rw [← hAW] at hAn hga hwa
                  have hwi := hI.out.wt
                  obtain ⟨TA, hTA, hTAd, hTAs⟩ := bt_ex AW.2
                  obtain ⟨TF, hTF, hTFd, hTFs⟩ := bt_ex FW.2
                  unfold StpT at hAn
                  rw [← hTA] at hAn
                  skip
                  have hOs : O.size = a.out.length := by rw [HO.out.1]; exact (bt_ex a.out).elim fun A h => by rw [← h.1]; exact h.2.2
                  have hsum : O.size + TA.size + TF.size ≤ 50000000 := by
                    have h9 := HG.out.2.2.2.2.1
                    have := r2
                    rw [List.length_append, List.length_append] at this
                    omega
                  have u7 : ¬ 9223372036854775807 < O.size + TA.size := by omega
                  have u8 : ¬ 9223372036854775807 < O.size + TA.size + TF.size := by omega
                  have HX := Lib.hid (And.intro hga (And.intro hrnd (And.intro r1 (And.intro r2 (And.intro hFW.symm (And.intro hTF (And.intro hTA (show Sm.wt ⟨AW.1, a.s.rest, a.s.kept⟩ ≤ 50000000 from by have h9 : AW.2.length + Sm.wt ⟨AW.1, a.s.rest, a.s.kept⟩ ≤ Sm.wt a.s := hwa; omega))))))))
                  have HAn := Lib.hid hAn
                  clear hAn hga hrnd r1 r2 hFW hTF hTA hTAd hTAs hTFd hTFs hsum hwa hwi hOs hAW
                  go_wp2_with fail
                  refine HAn.out.mono ?_
                  rintro e w4 ⟨rfl, hst4⟩
                  obtain ⟨R4, hD4⟩ := HDM.out.step hst4
                  have hF5 := feed_any (chunk := ⟨#[]⟩) hD4.ses HG.out.1 HX.out.1 (by decide) (by have h9 := HX.out.2.2.2.2.2.2.2; show Sm.wt ⟨AW.1, a.s.rest, a.s.kept⟩ + 2000 * 0 ≤ _; omega)
                  have hF5' : Calls Tryz.prog 14 #[.pointer (some ⟨sb, 0, none⟩), .string ⟨#[]⟩] w4 (FedIs w.heap.size w4 sb most R4 FW) := by
                    have e9 := HX.out.2.2.2.2.1
                    rw [← e9]; exact hF5
                  unfold FedIs at hF5'
                  rw [← HX.out.2.2.2.2.2.1] at hF5'
                  have HF5 := Lib.hid hF5'
                  have HD4 := Lib.hid hD4
                  clear hF5 hF5' hD4 hst4
                  go_wp2_with fail
                  refine HF5.out.mono ?_
                  rintro e w5 ⟨rfl, hst5⟩
                  obtain ⟨R5, hD5⟩ := HD4.out.step hst5
                  have hI5 := hD5.done (out := a.out ++ AW.2 ++ FW.2) hI.out.G0 HX.out.2.2.1 (by have h9 := HG.out.2.2.2.2.1; have h8 := HX.out.2.2.2.1; show (a.out ++ AW.2 ++ FW.2).length + Sm.wt FW.1 ≤ 50000000; omega) (by have h9 := HRl.out; show (a.mails ++ [envOf a.s.st]).length ≤ 1000000; rw [List.length_append, List.length_singleton]; have h8 := HK.out; have h7 := HG.out.2.2.2.2.2; omega)
                  have HI5 := Lib.hid hI5
                  clear hD5 hI5 hst5
                  go_wp2
                  go_roundg (7000 - (k + 1))
                  case rel =>
                    refine ⟨k + 1, ⟨FW.1, a.out ++ AW.2 ++ FW.2, a.mails ++ [envOf a.s.st]⟩, R5, O ++ TA ++ TF, by have := HK.out.2.1; omega, by have := HK.out.2.2.2; show (a.mails ++ [envOf a.s.st]).length ≤ _; rw [List.length_append, List.length_singleton]; omega, rfl, rfl, rfl, ?_, HI5, HX.out.2.2.2.1, ?_⟩
                    · refine ⟨?_, Nat.le_refl _⟩
                      rw [HO.out.1, HX.out.2.2.2.2.2.2.1, HX.out.2.2.2.2.2.1, bt_app, bt_app]
                    · rw [← HX.out.2.1]
                      have h9 := hD.out
                      have hg9 : gk = (7000 - (k + 1)) + 1 := by have := HK.out; omega
                      rw [hg9, drain_rnd _ _ _ _ HK.out.2.2.1] at h9
                      exact h9
                  case measure => have := HK.out; omega
              · have u2 : decide ((a.mails.length : Int) < (ans.length : Int)) = false := decide_eq_false (by omega)
                have u2' : decide (a.mails.length < ans.length) = false := decide_eq_false hlt
                have e1 : anL ans a.mails.length = 0 := by unfold anL; rw [List.getD_eq_getElem?_getD, List.getElem?_eq_none (by omega)]; rfl
                have HE := Lib.hid (And.intro e1 (Nat.zero_le 0))
                clear hlt hk hk1 hw hml e1
                have hwl := hI.out.wt
                have hbl : (a.s.st.body.getD []).length ≤ 100000000 := by unfold Sm.wt wtS at hwl; omega
                have HM := Lib.hid (mldAgg hI.out.ses hI.out.gd.inv hbl)
                clear hbl hwl
                go_wp2_with fail
                refine HM.out.mono ?_
                rintro e w2 ⟨rf, rp, rn, rc, rb, rfl, hr1, hs1, f1⟩
                obtain ⟨rs, m1, m2, m3⟩ := hI.out.mls.step (Ext.refl _ _) f1
                have hml := hI.out.ml
                have hrl : rs.length = a.mails.length := m3.len
                have hmlt : ∀ k, (Value.slice pmx a.mails.length cmx).ownBlock = some k → k < wr.heap.size := by
                  obtain ⟨rs0, n1, -, -⟩ := hI.out.mls
                  exact fun k e => (World.ownsRow.lt n1 k e).2
                have hwz : w.heap.size ≤ w2.heap.size := Nat.le_trans hI.out.frm.size f1.size
                have HRl := Lib.hid (And.intro hrl (And.intro hml hwz))
                have HMX := Lib.hid (And.intro m1 (And.intro m2 (And.intro m3 (And.intro hs1 (And.intro f1 (And.intro hr1 hmlt))))))
                clear m1 m2 m3 hs1 f1 hr1 hmlt hrl hml hwz
                go_wp2_with (first
                  | (at_builtin; refine append_n _ rfl (.tmp 58) (.tmp 61) envG rfl w.heap.size (.slice pmx a.mails.length cmx) rs rfl (HMX.out.1.alloc _) ⟨w2.heap.size, 0, none⟩ [(⟨rf, rp, rn, rc, rb⟩ : RE)] 1 1 rfl rfl (cells_new w2 [.string rf, .slice rp rn rc, .string rb] _) (by have := HRl.out; omega) (by have := HRl.out; omega) (by have := HRl.out; simp; omega) ?_; intro mv3 w3 hown3 hg3 hn3; have hDM := hI.out.mail HMX.out.1 HMX.out.2.1 HMX.out.2.2.1 HMX.out.2.2.2.1 HMX.out.2.2.2.2.1 HMX.out.2.2.2.2.2.1 HMX.out.2.2.2.2.2.2 ((Below.refl _ _).alloc (Nat.le_refl _) _) hown3 hg3 hn3; have HDM := Lib.hid hDM; clear hDM hown3 hg3 hn3)
                  | fail)
                obtain ⟨AW, hAW⟩ : ∃ AW, AW = answerW a.s.st (anL ans a.mails.length) := ⟨_, rfl⟩
                obtain ⟨FW, hFW⟩ : ∃ FW, FW = feedW most ⟨AW.1, a.s.rest, a.s.kept⟩ [] := ⟨_, rfl⟩
                have hrnd : rndW most (anL ans) a = ⟨FW.1, a.out ++ AW.2 ++ FW.2, a.mails ++ [envOf a.s.st]⟩ := by unfold rndW; rw [hFW, hAW]
                obtain ⟨r1, r2⟩ := rnd_gd HG.out.1 (anL ans) hI.out.gd hN.out
                rw [hrnd] at r1 r2
                have hAn := ses_answer HDM.out.ses (anL ans a.mails.length)
                have hga := hI.out.gd.answer (anL ans a.mails.length)
                have hwa := answer_wt' (s := a.s) (anL ans a.mails.length)
                rw [← hAW] at hAn hga hwa
                have hwi := hI.out.wt
                obtain ⟨TA, hTA, hTAd, hTAs⟩ := bt_ex AW.2
                obtain ⟨TF, hTF, hTFd, hTFs⟩ := bt_ex FW.2
                unfold StpT at hAn
                rw [← hTA] at hAn
                rw [HE.out.1] at hAn
                have hOs : O.size = a.out.length := by rw [HO.out.1]; exact (bt_ex a.out).elim fun A h => by rw [← h.1]; exact h.2.2
                have hsum : O.size + TA.size + TF.size ≤ 50000000 := by
                  have h9 := HG.out.2.2.2.2.1
                  have := r2
                  rw [List.length_append, List.length_append] at this
                  omega
                have u7 : ¬ 9223372036854775807 < O.size + TA.size := by omega
                have u8 : ¬ 9223372036854775807 < O.size + TA.size + TF.size := by omega
                have HX := Lib.hid (And.intro hga (And.intro hrnd (And.intro r1 (And.intro r2 (And.intro hFW.symm (And.intro hTF (And.intro hTA (show Sm.wt ⟨AW.1, a.s.rest, a.s.kept⟩ ≤ 50000000 from by have h9 : AW.2.length + Sm.wt ⟨AW.1, a.s.rest, a.s.kept⟩ ≤ Sm.wt a.s := hwa; omega))))))))
                have HAn := Lib.hid hAn
                clear hAn hga hrnd r1 r2 hFW hTF hTA hTAd hTAs hTFd hTFs hsum hwa hwi hOs hAW
                go_wp2_with fail
                refine HAn.out.mono ?_
                rintro e w4 ⟨rfl, hst4⟩
                obtain ⟨R4, hD4⟩ := HDM.out.step hst4
                have hF5 := feed_any (chunk := ⟨#[]⟩) hD4.ses HG.out.1 HX.out.1 (by decide) (by have h9 := HX.out.2.2.2.2.2.2.2; show Sm.wt ⟨AW.1, a.s.rest, a.s.kept⟩ + 2000 * 0 ≤ _; omega)
                have hF5' : Calls Tryz.prog 14 #[.pointer (some ⟨sb, 0, none⟩), .string ⟨#[]⟩] w4 (FedIs w.heap.size w4 sb most R4 FW) := by
                  have e9 := HX.out.2.2.2.2.1
                  rw [← e9]; exact hF5
                unfold FedIs at hF5'
                rw [← HX.out.2.2.2.2.2.1] at hF5'
                have HF5 := Lib.hid hF5'
                have HD4 := Lib.hid hD4
                clear hF5 hF5' hD4 hst4
                go_wp2_with fail
                refine HF5.out.mono ?_
                rintro e w5 ⟨rfl, hst5⟩
                obtain ⟨R5, hD5⟩ := HD4.out.step hst5
                have hI5 := hD5.done (out := a.out ++ AW.2 ++ FW.2) hI.out.G0 HX.out.2.2.1 (by have h9 := HG.out.2.2.2.2.1; have h8 := HX.out.2.2.2.1; show (a.out ++ AW.2 ++ FW.2).length + Sm.wt FW.1 ≤ 50000000; omega) (by have h9 := HRl.out; show (a.mails ++ [envOf a.s.st]).length ≤ 1000000; rw [List.length_append, List.length_singleton]; have h8 := HK.out; have h7 := HG.out.2.2.2.2.2; omega)
                have HI5 := Lib.hid hI5
                clear hD5 hI5 hst5
                go_wp2
                go_roundg (7000 - (k + 1))
                case rel =>
                  refine ⟨k + 1, ⟨FW.1, a.out ++ AW.2 ++ FW.2, a.mails ++ [envOf a.s.st]⟩, R5, O ++ TA ++ TF, by have := HK.out.2.1; omega, by have := HK.out.2.2.2; show (a.mails ++ [envOf a.s.st]).length ≤ _; rw [List.length_append, List.length_singleton]; omega, rfl, rfl, rfl, ?_, HI5, HX.out.2.2.2.1, ?_⟩
                  · refine ⟨?_, Nat.le_refl _⟩
                    rw [HO.out.1, HX.out.2.2.2.2.2.2.1, HX.out.2.2.2.2.2.1, bt_app, bt_app]
                  · rw [← HX.out.2.1]
                    have h9 := hD.out
                    have hg9 : gk = (7000 - (k + 1)) + 1 := by have := HK.out; omega
                    rw [hg9, drain_rnd _ _ _ _ HK.out.2.2.1] at h9
                    exact h9
                case measure => have := HK.out; omega
          · have u1 : decide ((k : Int) < 7000) = false := decide_eq_false (by omega)
            have hFa : F1 = a := by rw [← hD.out]; exact drain_end _ _ _ _ (.inl (by omega))
            have HFin := Lib.hid (And.intro hak hk)
            have HFa := Lib.hid hFa.symm
            clear hFa hml
            go_wp2
            go_roundg (ns.length - (i + 1))
            case rel =>
              refine ⟨i + 1, a, R, O, by have := HC.out; omega, rfl, rfl, trivial, ?_, hI, ?_, ?_⟩
              · refine ⟨HO.out.1, ?_⟩
                have h9 := HC.out; have h8 := HFin.out; omega
              · have h9 := HC.out.2.2.1; have h8 := hN.out; show _ ≤ _; rw [← h9]; exact h8
              · rw [HFa.out]; exact HC.out.2.2.2
            case measure => have := HC.out; omega
    · have u1 : decide ((i : Int) < (ns.length : Int)) = false := decide_eq_false (by omega)
      have hFa : F = a := by rw [← hD.out]; exact wholeW_end _ _ _ _ _ (by omega)
      have u2 : decide (i < ns.length) = false := decide_eq_false hl
      have HFa := Lib.hid hFa.symm
      have HV := Lib.hid (ses_over hI.out.ses)
      clear hFa hi hl hD hN
      go_wp2_with fail
      refine HV.out.mono ?_
      rintro e wz ⟨rfl, rfl⟩
      obtain ⟨rsx, mx1, -, mx3⟩ := hI.out.mls
      obtain ⟨pmx, cmx, hmvx, -⟩ := (mx1.sees (Nat.le_refl _)).form
      have hrx : rsx.length = a.mails.length := mx3.len
      rw [hrx] at hmvx
      subst hmvx
      clear mx1 mx3 hrx
      have hMo := hI.out.mls.out
      have hB := fr00 hI.out.frm
      have HM := Lib.hid (And.intro hMo hB)
      clear hMo hB
      go_wp2
      go_ret3
      refine ⟨.slice pmx a.mails.length cmx, ?_, ?_, HM.out.2⟩
      · rw [← HFa.out, HO.out.1]; rfl
      · rw [← HFa.out]; exact HM.out.1
end
end Go.Proofs.YtjoipgekmnnlpaaGreatDoor
