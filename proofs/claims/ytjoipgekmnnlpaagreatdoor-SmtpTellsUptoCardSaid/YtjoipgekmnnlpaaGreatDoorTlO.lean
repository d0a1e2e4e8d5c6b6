/- Walks: the reference of layer 22: its session as the plain one: a command. -/
import Derived.Test.YtjoipgekmnnlpaaGreatDoorTlK
import Derived.Lib.ItoaLen
namespace Go.Proofs.YtjoipgekmnnlpaaGreatDoor
open Go.RowKit Go.Shelf Go.Lib Pk Hx C1 Sm

section
variable {Z : Nat → Prop} {w w' : World} {rb most fb N : Nat} {kv tv : Value} {B L : ByteArray} {s : Whl}
theorem StR.after {w2 : World} {t : List UInt8} {e : Ending} (hb : Below w.heap.size w w2) (h : StR Z w2 rb most N s t e w') : StR Z w rb most N s t e w' :=
  ⟨h.1, h.2.1, (Fr.of_below hb).trans h.2.2 fun g e => .inl e⟩
theorem RfR.below (h : RfR Z w rb most fb kv tv B L s) (hb : Below w.heap.size w w') : RfR Z w' rb most fb kv tv B L s := h.keep fun k hk _ => hb.block k hk
/-- a command's answer, by which verb it is -/
def CmdIs (Z : Nat → Prop) (w : World) (rb most N : Nat) (s : Whl) (p : Ses × List UInt8) (e : Ending) (w' : World) : Prop := StR Z w rb most N ⟨p.1, s.rest, s.kept⟩ p.2 e w'
theorem cmd_same {w2 : World} (h : RfR Z w2 rb most fb kv tv B L s) (hN : L.size ≤ N) (hb : Below w.heap.size w w2) (hb2 : Below w2.heap.size w2 w') {p : Ses × List UInt8} {n : Nat} (hp : p = (s.st, repW n)) : CmdIs Z w rb most N s p (.returned (.string (bt (repW n)))) w' := by
  subst hp
  exact StR.after hb (RfR.same h hN hb2 _)
theorem cmd_of {w2 : World} {p q : Ses × List UInt8} {e : Ending} (hb : Below w.heap.size w w2) (hp : p = q) (h : StR Z w2 rb most N ⟨q.1, s.rest, s.kept⟩ q.2 e w') : CmdIs Z w rb most N s p e w' := by
  subst hp
  exact StR.after hb h
set_option maxHeartbeats 8000000 in
set_option maxRecDepth 100000 in
theorem refCommand (h : RfR Z w rb most fb kv tv B L s) (hN : L.size ≤ N) (hZ : ∀ k, w.heap.size ≤ k → Z k) (l : ByteArray) (hl : l.size ≤ 100000) (hm : most ≤ 65536) (ht : s.st.to.length ≤ 1000) (hbd : s.st.body = none) (hwt : s.st.waits = false) :
    Calls Tryz.prog 42 #[.pointer (some ⟨rb, 0, none⟩), .string l] w (CmdIs Z w rb most N s (commandW most s.st l.data.toList)) := by
  have H1 := Lib.hid (And.intro h (And.intro hN (Below.refl w.heap.size w)))
  by_cases hlast : l.data.toList.getLast? = some 10
  · have hl0 : l ≠ ⟨#[]⟩ := fun e => by rw [e] at hlast; cases hlast
    obtain ⟨e1, e2, e3⟩ := str_litR hl0
    have t1 : (0 : Int) ≤ (l.size : Int) - 1 ∧ (l.size : Int) - 1 < (l.size : Int) := by omega
    have t2 : 1 ≤ (l.size : Int) ∧ (l.size : Int) - 1 < (l.size : Int) := by omega
    have t3 : l.size - 1 < l.size := by omega
    have t5 : (0 : Int) < (l.size : Int) := by omega
    have t4 : IntKind.i64.wrap ((l.size : Int) - 1) = (l.size : Int) - 1 := w64 rfl (by omega) (by omega)
    have h10 : l[l.size - 1] = 10 := by
      have := last_atR l e3
      rw [hlast] at this
      injection this with this
      exact this.symm
    have q1 : ((l[l.size - 1].toNat : Int) == 10) = true := by rw [h10]; rfl
    have q1' : ((l[l.size - 1].toNat : Int) != 10) = false := by rw [h10]; rfl
    have hcw : commandW most s.st l.data.toList = doW most (verbW ((wordW (bareS l.data.toList)).1.map up)) s.st (wordW (bareS l.data.toList)).2 := by
      unfold commandW
      rw [if_neg (by rw [hlast]; simp)]
    have hbq := bareQ_anyR l w (by omega)
    obtain ⟨D, hD, hDd, hDs⟩ := bt_ex (bareS l.data.toList)
    rw [← hD] at hbq
    have hDl := bareS_le l.data.toList
    have hll : l.data.toList.length = l.size := rfl
    have htr := rtrimS_any D w (by omega)
    obtain ⟨C, hC, hCd, hCs⟩ := bt_ex (trimW D.data.toList)
    rw [← hC] at htr
    have hCl := trimW_lenR D.data.toList
    have hDl2 : D.data.toList.length = D.size := rfl
    rw [← hDd] at hcw
    have HBq := Lib.hid hbq
    have HTr := Lib.hid htr
    have HC0 := Lib.hid (And.intro hcw hCd)
    have hCz : C.size ≤ 100000 := by omega
    have HZ := Lib.hid (And.intro hZ (And.intro ht (And.intro hbd (And.intro hwt hm))))
    clear h hN hZ hlast hl0 h10 hcw hbq hD hDd hDs hDl hll htr hC hCd hCs hCl hDl2 ht hbd hwt hm
    go_enter Tryz.func42, Tryz.ntmps42
    go_wp2_with fail
    refine HBq.out.mono ?_
    rintro e w1 ⟨rfl, rfl⟩
    go_wp2_with fail
    refine HTr.out.mono ?_
    rintro e w1 ⟨rfl, rfl⟩
    go_upto_block 0 with fail
    go_cut [6] (fun kv wc => ∃ (k : Nat), kv = .int .i64 k ∧ wc = w1 ∧ k ≤ C.size ∧ Hid (C.data.toList.takeWhile (fun c => !blk c) = C.data.toList.take k ∧ C.data.toList.dropWhile (fun c => !blk c) = tl C k))
    case first =>
      go_wp2_with fail
      go_loopw [6] (fun kv wr => ∃ (k : Nat), kv = .int .i64 k ∧ wr = w1 ∧ k ≤ C.size ∧ Hid (WdAt C k)) (fun kv _ => C.size - (intOf kv).toNat)
      case atStart => exact ⟨0, by first | rfl | trivial, rfl, Nat.zero_le _, wdAt_zero C⟩
      case round =>
        obtain ⟨k, rfl, rfl, hk, hW⟩ := hrel
        by_cases hlt : k < C.size
        · have r6 : IntKind.i64.wrap ((k : Int) + 1) = (k : Int) + 1 := w64 rfl (by omega) (by omega)
          have HK := Lib.hid (rblank_any C[k] wr)
          obtain ⟨s1, s2⟩ := wdAt_step hW.out hlt
          cases hb : blk C[k] with
          | false =>
            rw [hb] at HK
            have HNx := Lib.hid (s1 hb)
            clear s1 s2 hW hb
            go_wp2_with fail
            refine HK.out.mono ?_
            rintro e wb ⟨rfl, rfl⟩
            go_wp2
            go_roundw
            case rel => exact ⟨k + 1, by go_num, by first | rfl | trivial, by omega, HNx⟩
            case measure => simp [intOf]; omega
          | true =>
            rw [hb] at HK
            have hwd := Lib.hid (s2 hb)
            clear s1 s2 hW hb
            go_wp2_with fail
            refine HK.out.mono ?_
            rintro e wb ⟨rfl, rfl⟩
            go_wp2
            go_meet
            exact ⟨k, rfl, rfl, hk, hwd⟩
        · have hwd := Lib.hid (wdAt_end hW.out hlt)
          clear hW
          go_wp2
          go_meet
          exact ⟨k, rfl, rfl, hk, hwd⟩
    case rest =>
      obtain ⟨k, rfl, rfl, hk, hwd⟩ := hcut
      have z2 : (0 : Int) ≤ (k : Int) := by omega
      have z3 : (k : Int) ≤ (C.size : Int) := by omega
      have hg := rgreat_any (C.extract 0 k) wc (by rw [ByteArray.size_extract]; omega)
      obtain ⟨V, hV, hVd, -⟩ := bt_ex ((C.extract 0 k).data.toList.map up)
      rw [← hV] at hg
      have htr2 := fun w => rtrimS_any (C.extract k C.size) w (by rw [ByteArray.size_extract]; omega)
      obtain ⟨R, hR, hRd, hRs⟩ := bt_ex (trimW (C.extract k C.size).data.toList)
      rw [← hR] at htr2
      have e4 : (C.extract 0 k).data.toList = C.data.toList.take k := by rw [ext_to]
      have e5 : (C.extract k C.size).data.toList = tl C k := ext_from C k
      have hRl := trimW_lenR (C.extract k C.size).data.toList
      rw [e5, tl_lengthB] at hRl
      have HRn := Lib.hid (And.intro (show NT R.data.toList by rw [hRd]; exact nt_trim _) (show R.size ≤ 100000 by rw [hRs, e5]; omega))
      have HC : Hid (commandW most s.st l.data.toList = doW most (verbW V.data.toList) s.st R.data.toList) := by
        show commandW most s.st l.data.toList = doW most (verbW V.data.toList) s.st R.data.toList
        rw [HC0.out.1, hVd, hRd, e4, e5, ← hwd.out.1, ← hwd.out.2, HC0.out.2]
        rfl
      have HG := Lib.hid hg
      have HT2 := Lib.hid htr2
      clear hg hV hVd htr2 hR hRd hRs e4 e5 hRl hwd HC0
      go_wp2_with fail
      refine HG.out.mono ?_
      rintro e w2 ⟨rfl, hb2⟩
      have H2 := Lib.hid (And.intro (H1.out.1.below hb2) (And.intro H1.out.2.1 hb2))
      clear hb2
      go_wp2_with fail
      refine (HT2.out _).mono ?_
      rintro e w3 ⟨rfl, rfl⟩
      clear HG HT2 HBq HTr
      by_cases v0 : V = ⟨#[69, 72, 76, 79]⟩
      · subst v0
        have HCm := Lib.hid (show commandW most s.st l.data.toList = doW most 0 s.st R.data.toList from HC.out.trans (by rw [show verbW (⟨#[69, 72, 76, 79]⟩ : ByteArray).data.toList = 0 from by decide]))
        clear HC
        by_cases hR0 : R = ⟨#[]⟩
        · obtain ⟨e11, e12⟩ := str_nilR hR0
          have hre : R.data.toList.isEmpty = true := by rw [hR0]; rfl
          have HP : Hid (commandW most s.st l.data.toList = (s.st, repW 501)) := by
            show commandW most s.st l.data.toList = (s.st, repW 501)
            rw [HCm.out]
            show helloW most true s.st R.data.toList = _
            unfold helloW
            rw [if_pos hre]
          clear HCm hre hR0
          have HR := Lib.hid (fun w => rrep501 w)
          go_wp2_with fail
          refine (HR.out _).mono ?_
          rintro e w9 ⟨rfl, hb9⟩
          go_wp2
          go_ret
          exact cmd_same H2.out.1 H2.out.2.1 H2.out.2.2 hb9 HP.out
        · obtain ⟨e11, e12, -⟩ := str_litR hR0
          have hre : R.data.toList.isEmpty = false := by rw [Lib.toList_data] at e11; exact e11
          have c3 := H2.out.1.raw.cells.c3
          have f3 := H2.out.1.raw.frz 3
          have hf3 : Fr (Bk rb) w3 (w3.setCell ⟨rb, 3, none⟩ (.bool true)) := (Fr.refl (Bk rb) w3).setCell (by rfl) _
          have HF3 := Lib.hid hf3
          have HAn := Lib.hid (anewR_any (H2.out.1.raw.set3 true))
          clear hf3 hR0
          have hp : commandW most s.st l.data.toList = ({ reset s.st with greeted := true }, ehloL most ++ repW 250) := by
            rw [HCm.out]
            show helloW most true s.st R.data.toList = _
            unfold helloW
            rw [if_neg (by rw [hre]; decide)]
            rfl
          have HP := Lib.hid hp
          have hm := HZ.out.2.2.2.2
          have hT := fun w => textR_any (most : Int).natAbs (most : Int) w (Nat.le_refl _) (by omega) (by omega)
          have hT0 := Lib.itoa_length_le (most : Int) (by omega) (by omega)
          have hE : bt (ehloL most ++ repW 250) = ⟨#[50, 53, 48, 45, 112, 111, 117, 99, 104, 13, 10, 50, 53, 48, 45, 80, 73, 80, 69, 76, 73, 78, 73, 78, 71, 13, 10, 50, 53, 48, 45, 83, 73, 90, 69, 32]⟩ ++ bt (Lib.itoa (most : Int)) ++ ⟨#[13, 10]⟩ ++ bt (repW 250) := by
            show _ = bt [50, 53, 48, 45, 112, 111, 117, 99, 104, 13, 10, 50, 53, 48, 45, 80, 73, 80, 69, 76, 73, 78, 73, 78, 71, 13, 10, 50, 53, 48, 45, 83, 73, 90, 69, 32] ++ bt (Lib.itoa (most : Int)) ++ bt [13, 10] ++ bt (repW 250)
            rw [bt_app, bt_app, bt_app]
            rfl
          have hz : (bt (Lib.itoa (most : Int))).size ≤ 21 := by show (Lib.itoa (most : Int)).toArray.size ≤ 21; simpa using hT0
          have hT3 : ∀ w, Calls Tryz.prog 53 #[.int .i64 most] w fun e w' => e = .returned (.string (bt (Lib.itoa (most : Int)))) ∧ Below w.heap.size w w' := hT
          obtain ⟨T, hTt⟩ : ∃ T, T = bt (Lib.itoa (most : Int)) := ⟨_, rfl⟩
          rw [← hTt] at hT3 hE hz
          have hr250 := fun w => rrep250 w
          obtain ⟨Q, hQ⟩ : ∃ Q, Q = bt (repW 250) := ⟨_, rfl⟩
          rw [← hQ] at hr250 hE
          have hQs : Q.size = 8 := by rw [hQ]; rfl
          have t1 : ¬ 9223372036854775807 < 36 + T.size := by omega
          have t2 : ¬ 9223372036854775807 < 36 + T.size + 2 := by omega
          have t3 : ¬ 9223372036854775807 < 36 + T.size + 2 + Q.size := by omega
          have HT := Lib.hid hT3
          have HR := Lib.hid hr250
          have HE := Lib.hid hE
          clear HCm hre hp hm hT hT0 hE hz hT3 hTt hr250 hQ hQs
          go_wp2_with fail
          refine HAn.out.mono ?_
          rintro e w5 ⟨rfl, h5, f5⟩
          have d0 := h5.cells.c0
          have H5 := Lib.hid (And.intro h5 (HF3.out.trans f5 (fun _ e => .inl e)))
          clear h5 f5
          go_wp2_with fail
          refine (HT.out _).mono ?_
          rintro e w6 ⟨rfl, hb6⟩
          have HB6 := Lib.hid hb6
          clear hb6
          go_wp2_with fail
          refine (HR.out _).mono ?_
          rintro e w9 ⟨rfl, hb9⟩
          go_wp2
          go_ret
          refine cmd_of H2.out.2.2 HP.out ?_
          rw [← HE.out]
          exact RfR.stR (H2.out.1.turn ((H5.out.2.then HB6.out).then hb9) (st := { reset s.st with greeted := true }) (tv' := .slice none 0 0) (B' := B) ((H5.out.1.later HB6.out).later hb9) (fun b e => H2.out.1.bod b e) (nilQ _) (fun k e => by cases e)) H2.out.2.1 _
      ·
        by_cases v1 : V = ⟨#[72, 69, 76, 79]⟩
        · subst v1
          have HCm := Lib.hid (show commandW most s.st l.data.toList = doW most 1 s.st R.data.toList from HC.out.trans (by rw [show verbW (⟨#[72, 69, 76, 79]⟩ : ByteArray).data.toList = 1 from by decide]))
          clear HC
          by_cases hR0 : R = ⟨#[]⟩
          · obtain ⟨e11, e12⟩ := str_nilR hR0
            have hre : R.data.toList.isEmpty = true := by rw [hR0]; rfl
            have HP : Hid (commandW most s.st l.data.toList = (s.st, repW 501)) := by
              show commandW most s.st l.data.toList = (s.st, repW 501)
              rw [HCm.out]
              show helloW most false s.st R.data.toList = _
              unfold helloW
              rw [if_pos hre]
            clear HCm hre hR0
            have HR := Lib.hid (fun w => rrep501 w)
            go_wp2_with fail
            refine (HR.out _).mono ?_
            rintro e w9 ⟨rfl, hb9⟩
            go_wp2
            go_ret
            exact cmd_same H2.out.1 H2.out.2.1 H2.out.2.2 hb9 HP.out
          · obtain ⟨e11, e12, -⟩ := str_litR hR0
            have hre : R.data.toList.isEmpty = false := by rw [Lib.toList_data] at e11; exact e11
            have c3 := H2.out.1.raw.cells.c3
            have f3 := H2.out.1.raw.frz 3
            have hf3 : Fr (Bk rb) w3 (w3.setCell ⟨rb, 3, none⟩ (.bool true)) := (Fr.refl (Bk rb) w3).setCell (by rfl) _
            have HF3 := Lib.hid hf3
            have HAn := Lib.hid (anewR_any (H2.out.1.raw.set3 true))
            clear hf3 hR0
            have hp : commandW most s.st l.data.toList = ({ reset s.st with greeted := true }, repW 250) := by
              rw [HCm.out]
              show helloW most false s.st R.data.toList = _
              unfold helloW
              rw [if_neg (by rw [hre]; decide)]
              rfl
            have HP := Lib.hid hp
            have HR := Lib.hid (fun w => rrep250 w)
            clear HCm hre hp
            go_wp2_with fail
            refine HAn.out.mono ?_
            rintro e w5 ⟨rfl, h5, f5⟩
            have H5 := Lib.hid (And.intro h5 (HF3.out.trans f5 (fun _ e => .inl e)))
            clear h5 f5
            go_wp2_with fail
            refine (HR.out _).mono ?_
            rintro e w9 ⟨rfl, hb9⟩
            go_wp2
            go_ret
            exact cmd_of H2.out.2.2 HP.out (RfR.stR (H2.out.1.turn (H5.out.2.then hb9) (st := { reset s.st with greeted := true }) (tv' := .slice none 0 0) (B' := B) (H5.out.1.later hb9) (fun b e => H2.out.1.bod b e) (nilQ _) (fun k e => by cases e)) H2.out.2.1 _)
        ·
          by_cases v2 : V = ⟨#[77, 65, 73, 76]⟩
          · subst v2
            have HCm := Lib.hid (show commandW most s.st l.data.toList = doW most 2 s.st R.data.toList from HC.out.trans (by rw [show verbW (⟨#[77, 65, 73, 76]⟩ : ByteArray).data.toList = 2 from by decide]))
            clear HC
            have HM := Lib.hid (refMail H2.out.1 H2.out.2.1 R HRn.out.2 HRn.out.1)
            go_wp2_with fail
            refine HM.out.mono ?_
            rintro e w9 ⟨rfl, hr, hf⟩
            go_wp2
            go_ret
            exact cmd_of H2.out.2.2 (show commandW most s.st l.data.toList = mailW most s.st R.data.toList from HCm.out) ⟨rfl, hr, hf⟩
          ·
            by_cases v3 : V = ⟨#[82, 67, 80, 84]⟩
            · subst v3
              have HCm := Lib.hid (show commandW most s.st l.data.toList = doW most 3 s.st R.data.toList from HC.out.trans (by rw [show verbW (⟨#[82, 67, 80, 84]⟩ : ByteArray).data.toList = 3 from by decide]))
              clear HC
              have HM := Lib.hid (refRcpt H2.out.1 H2.out.2.1 (fun k hk => HZ.out.1 k (Nat.le_trans H2.out.2.2.size hk)) R HRn.out.2 HRn.out.1 HZ.out.2.1)
              go_wp2_with fail
              refine HM.out.mono ?_
              rintro e w9 ⟨rfl, hr, hf⟩
              go_wp2
              go_ret
              exact cmd_of H2.out.2.2 (show commandW most s.st l.data.toList = rcptW s.st R.data.toList from HCm.out) ⟨rfl, hr, hf⟩
            ·
              by_cases v4 : V = ⟨#[68, 65, 84, 65]⟩
              · subst v4
                have HCm := Lib.hid (show commandW most s.st l.data.toList = doW most 4 s.st R.data.toList from HC.out.trans (by rw [show verbW (⟨#[68, 65, 84, 65]⟩ : ByteArray).data.toList = 4 from by decide]))
                clear HC
                by_cases hR0 : R = ⟨#[]⟩
                · obtain ⟨e11, e12⟩ := str_nilR hR0
                  have hre : R.data.toList.isEmpty = true := by rw [hR0]; rfl
                  obtain ⟨p, c, hv, -⟩ := H2.out.1.rcp.form
                  rw [List.length_map] at hv
                  by_cases ht0 : s.st.to = []
                  · have hp : commandW most s.st l.data.toList = (s.st, repW 503) := by
                      rw [HCm.out]
                      show dataW s.st R.data.toList = _
                      unfold dataW
                      rw [if_neg (by rw [hre]; decide), if_pos (by rw [ht0]; rfl)]
                    have HP := Lib.hid hp
                    have HB := Lib.hid (bareR_data0 H2.out.1.raw (hv.trans (by rw [ht0]; rfl)))
                    clear HCm hre hR0 hp hv ht0
                    go_wp2_with fail
                    refine HB.out.mono ?_
                    rintro e w9 ⟨rfl, hb9⟩
                    go_wp2
                    go_ret
                    exact cmd_same H2.out.1 H2.out.2.1 H2.out.2.2 hb9 HP.out
                  · have hp : commandW most s.st l.data.toList = ({ s.st with body := some [], long := false }, repW 354) := by
                      rw [HCm.out]
                      show dataW s.st R.data.toList = _
                      unfold dataW
                      rw [if_neg (by rw [hre]; decide), if_neg (by simpa using ht0)]
                    have HP := Lib.hid hp
                    have HB := Lib.hid (bareR_data1 H2.out.1.raw hv (List.length_pos_iff.2 ht0))
                    clear HCm hre hR0 hp hv ht0
                    go_wp2_with fail
                    refine HB.out.mono ?_
                    rintro e w9 ⟨rfl, hr, hf⟩
                    go_wp2
                    go_ret
                    refine cmd_of H2.out.2.2 HP.out (RfR.stR (H2.out.1.turn hf (st := { s.st with body := some [], long := false }) (tv' := tv) (B' := ⟨#[]⟩) ?_ (fun b e => by injection e with e; rw [← e]; rfl) (H2.out.1.to' hf) H2.out.1.zt) H2.out.2.1 _)
                    show RawR w9 rb most fb kv s.st.greeted s.st.sender.isSome (bt (s.st.sender.getD [])) tv (true && !s.st.waits) false ⟨#[]⟩ s.st.waits s.st.over
                    rw [HZ.out.2.2.2.1] at hr ⊢
                    exact hr
                · obtain ⟨e11, e12, -⟩ := str_litR hR0
                  have hre : R.data.toList.isEmpty = false := by rw [Lib.toList_data] at e11; exact e11
                  have HP : Hid (commandW most s.st l.data.toList = (s.st, repW 501)) := by
                    show commandW most s.st l.data.toList = (s.st, repW 501)
                    rw [HCm.out]
                    show dataW s.st R.data.toList = _
                    unfold dataW
                    rw [if_pos hre]
                  clear HCm hre hR0
                  have HR := Lib.hid (fun w => rrep501 w)
                  go_wp2_with fail
                  refine (HR.out _).mono ?_
                  rintro e w9 ⟨rfl, hb9⟩
                  go_wp2
                  go_ret
                  exact cmd_same H2.out.1 H2.out.2.1 H2.out.2.2 hb9 HP.out
              ·
                by_cases v5 : V = ⟨#[82, 83, 69, 84]⟩
                · subst v5
                  have HCm := Lib.hid (show commandW most s.st l.data.toList = doW most 5 s.st R.data.toList from HC.out.trans (by rw [show verbW (⟨#[82, 83, 69, 84]⟩ : ByteArray).data.toList = 5 from by decide]))
                  clear HC
                  by_cases hR0 : R = ⟨#[]⟩
                  · obtain ⟨e11, e12⟩ := str_nilR hR0
                    have hre : R.data.toList.isEmpty = true := by rw [hR0]; rfl
                    have hp : commandW most s.st l.data.toList = (reset s.st, repW 250) := by
                      rw [HCm.out]
                      show rsetW s.st R.data.toList = _
                      unfold rsetW
                      rw [if_neg (by rw [hre]; decide)]
                    have HP := Lib.hid hp
                    have HB := Lib.hid (bareR_rset H2.out.1.raw)
                    clear HCm hre hR0 hp
                    go_wp2_with fail
                    refine HB.out.mono ?_
                    rintro e w9 ⟨rfl, hr, hf⟩
                    go_wp2
                    go_ret
                    exact cmd_of H2.out.2.2 HP.out (RfR.stR (H2.out.1.turn hf (st := reset s.st) (tv' := .slice none 0 0) (B' := B) hr (fun b e => H2.out.1.bod b e) (nilQ _) (fun k e => by cases e)) H2.out.2.1 _)
                  · obtain ⟨e11, e12, -⟩ := str_litR hR0
                    have hre : R.data.toList.isEmpty = false := by rw [Lib.toList_data] at e11; exact e11
                    have HP : Hid (commandW most s.st l.data.toList = (s.st, repW 501)) := by
                      show commandW most s.st l.data.toList = (s.st, repW 501)
                      rw [HCm.out]
                      show rsetW s.st R.data.toList = _
                      unfold rsetW
                      rw [if_pos hre]
                    clear HCm hre hR0
                    have HR := Lib.hid (fun w => rrep501 w)
                    go_wp2_with fail
                    refine (HR.out _).mono ?_
                    rintro e w9 ⟨rfl, hb9⟩
                    go_wp2
                    go_ret
                    exact cmd_same H2.out.1 H2.out.2.1 H2.out.2.2 hb9 HP.out
                ·
                  by_cases v6 : V = ⟨#[81, 85, 73, 84]⟩
                  · subst v6
                    have HCm := Lib.hid (show commandW most s.st l.data.toList = doW most 6 s.st R.data.toList from HC.out.trans (by rw [show verbW (⟨#[81, 85, 73, 84]⟩ : ByteArray).data.toList = 6 from by decide]))
                    clear HC
                    by_cases hR0 : R = ⟨#[]⟩
                    · obtain ⟨e11, e12⟩ := str_nilR hR0
                      have hre : R.data.toList.isEmpty = true := by rw [hR0]; rfl
                      have hp : commandW most s.st l.data.toList = ({ s.st with over := true }, repW 221) := by
                        rw [HCm.out]
                        show quitW s.st R.data.toList = _
                        unfold quitW
                        rw [if_neg (by rw [hre]; decide)]
                      have HP := Lib.hid hp
                      have HB := Lib.hid (bareR_quit H2.out.1.raw)
                      clear HCm hre hR0 hp
                      go_wp2_with fail
                      refine HB.out.mono ?_
                      rintro e w9 ⟨rfl, hr, hf⟩
                      go_wp2
                      go_ret
                      exact cmd_of H2.out.2.2 HP.out (RfR.stR (H2.out.1.turn hf (st := { s.st with over := true }) (tv' := tv) (B' := B) hr (fun b e => H2.out.1.bod b e) (H2.out.1.to' hf) H2.out.1.zt) H2.out.2.1 _)
                    · obtain ⟨e11, e12, -⟩ := str_litR hR0
                      have hre : R.data.toList.isEmpty = false := by rw [Lib.toList_data] at e11; exact e11
                      have HP : Hid (commandW most s.st l.data.toList = (s.st, repW 501)) := by
                        show commandW most s.st l.data.toList = (s.st, repW 501)
                        rw [HCm.out]
                        show quitW s.st R.data.toList = _
                        unfold quitW
                        rw [if_pos hre]
                      clear HCm hre hR0
                      have HR := Lib.hid (fun w => rrep501 w)
                      go_wp2_with fail
                      refine (HR.out _).mono ?_
                      rintro e w9 ⟨rfl, hb9⟩
                      go_wp2
                      go_ret
                      exact cmd_same H2.out.1 H2.out.2.1 H2.out.2.2 hb9 HP.out
                  ·
                    by_cases v7 : V = ⟨#[78, 79, 79, 80]⟩
                    · subst v7
                      have HCm := Lib.hid (show commandW most s.st l.data.toList = doW most 7 s.st R.data.toList from HC.out.trans (by rw [show verbW (⟨#[78, 79, 79, 80]⟩ : ByteArray).data.toList = 7 from by decide]))
                      clear HC
                      have HP : Hid (commandW most s.st l.data.toList = (s.st, repW 250)) := HCm.out
                      clear HCm
                      have HR := Lib.hid (fun w => rrep250 w)
                      go_wp2_with fail
                      refine (HR.out _).mono ?_
                      rintro e w9 ⟨rfl, hb9⟩
                      go_wp2
                      go_ret
                      exact cmd_same H2.out.1 H2.out.2.1 H2.out.2.2 hb9 HP.out
                    ·
                      by_cases v8 : V = ⟨#[86, 82, 70, 89]⟩
                      · subst v8
                        have HCm := Lib.hid (show commandW most s.st l.data.toList = doW most 8 s.st R.data.toList from HC.out.trans (by rw [show verbW (⟨#[86, 82, 70, 89]⟩ : ByteArray).data.toList = 8 from by decide]))
                        clear HC
                        have HP : Hid (commandW most s.st l.data.toList = (s.st, repW 252)) := HCm.out
                        clear HCm
                        have HR := Lib.hid (fun w => rrep252 w)
                        go_wp2_with fail
                        refine (HR.out _).mono ?_
                        rintro e w9 ⟨rfl, hb9⟩
                        go_wp2
                        go_ret
                        exact cmd_same H2.out.1 H2.out.2.1 H2.out.2.2 hb9 HP.out
                      ·
                        have hne : ∀ (a : ByteArray), V ≠ a → V.data.toList ≠ a.data.toList := fun a h e => h (by cases V; cases a; exact congrArg ByteArray.mk (Array.toList_inj.1 e))
                        have n0 : (V.toList == [69, 72, 76, 79]) = false := by rw [cmp_lit]; exact decide_eq_false (hne _ v0)
                        have n1 : (V.toList == [72, 69, 76, 79]) = false := by rw [cmp_lit]; exact decide_eq_false (hne _ v1)
                        have n2 : (V.toList == [77, 65, 73, 76]) = false := by rw [cmp_lit]; exact decide_eq_false (hne _ v2)
                        have n3 : (V.toList == [82, 67, 80, 84]) = false := by rw [cmp_lit]; exact decide_eq_false (hne _ v3)
                        have n4 : (V.toList == [68, 65, 84, 65]) = false := by rw [cmp_lit]; exact decide_eq_false (hne _ v4)
                        have n5 : (V.toList == [82, 83, 69, 84]) = false := by rw [cmp_lit]; exact decide_eq_false (hne _ v5)
                        have n6 : (V.toList == [81, 85, 73, 84]) = false := by rw [cmp_lit]; exact decide_eq_false (hne _ v6)
                        have n7 : (V.toList == [78, 79, 79, 80]) = false := by rw [cmp_lit]; exact decide_eq_false (hne _ v7)
                        have n8 : (V.toList == [86, 82, 70, 89]) = false := by rw [cmp_lit]; exact decide_eq_false (hne _ v8)
                        have HP : Hid (commandW most s.st l.data.toList = (s.st, repW 500)) := by
                          show commandW most s.st l.data.toList = (s.st, repW 500)
                          have hv : verbW V.data.toList = 9 := by
                            unfold verbW
                            rw [if_neg (hne _ v0), if_neg (hne _ v1), if_neg (hne _ v2), if_neg (hne _ v3), if_neg (hne _ v4), if_neg (hne _ v5), if_neg (hne _ v6), if_neg (hne _ v7), if_neg (hne _ v8)]
                          rw [HC.out, hv]
                          rfl
                        clear HC v0 v1 v2 v3 v4 v5 v6 v7 v8 hne
                        have HR := Lib.hid (fun w => rrep500 w)
                        go_wp2_with fail
                        refine (HR.out _).mono ?_
                        rintro e w9 ⟨rfl, hb9⟩
                        go_wp2
                        go_ret
                        exact cmd_same H2.out.1 H2.out.2.1 H2.out.2.2 hb9 HP.out
  · have HP : Hid (commandW most s.st l.data.toList = (s.st, repW 500)) := by
      show commandW most s.st l.data.toList = (s.st, repW 500)
      unfold commandW; rw [if_pos hlast]
    have HR := Lib.hid (fun w => rrep500 w)
    clear h hN
    by_cases hl0 : l = ⟨#[]⟩
    · obtain ⟨e1, e2⟩ := str_nilR hl0
      clear hl0 hlast
      go_enter Tryz.func42, Tryz.ntmps42
      go_wp2_with fail
      refine (HR.out _).mono ?_
      rintro e w9 ⟨rfl, hb9⟩
      go_wp2
      go_ret
      exact cmd_same H1.out.1 H1.out.2.1 (Below.refl _ _) hb9 HP.out
    · obtain ⟨e1, e2, e3⟩ := str_litR hl0
      have t1 : (0 : Int) ≤ (l.size : Int) - 1 ∧ (l.size : Int) - 1 < (l.size : Int) := by omega
      have t2 : 1 ≤ (l.size : Int) ∧ (l.size : Int) - 1 < (l.size : Int) := by omega
      have t3 : l.size - 1 < l.size := by omega
      have t5 : (0 : Int) < (l.size : Int) := by omega
      have t4 : IntKind.i64.wrap ((l.size : Int) - 1) = (l.size : Int) - 1 := w64 rfl (by omega) (by omega)
      have h10 : ¬ l[l.size - 1] = 10 := fun e => hlast (by rw [last_atR l e3, e])
      have q1 : ((l[l.size - 1].toNat : Int) != 10) = true := bne_iff_ne.2 (fun e => h10 (UInt8.toNat_inj.1 (by rw [show (10 : UInt8).toNat = 10 from rfl]; omega)))
      clear hl0 hlast h10
      go_enter Tryz.func42, Tryz.ntmps42
      go_wp2_with fail
      refine (HR.out _).mono ?_
      rintro e w9 ⟨rfl, hb9⟩
      go_wp2
      go_ret
      exact cmd_same H1.out.1 H1.out.2.1 (Below.refl _ _) hb9 HP.out
end
end Go.Proofs.YtjoipgekmnnlpaaGreatDoor
