/- Walks: the law WordsHeaders. -/
import Derived.Test.YtnclbbgdfaeilaaGreatDoorWhP
import Derived.Test.YtnclbbgdfaeilaaGreatDoorLaw13
import Derived.Test.YtnclbbgdfaeilaaGreatDoorWd7x
import Derived.Test.YtnclbbgdfaeilaaGreatDoorRt9
namespace Go.Proofs.YtnclbbgdfaeilaaGreatDoor
open Go.RowKit Pk U8 Cs Wd

theorem rt_rdy {w : World} (h : Rdy w) : Rt w := by
  obtain ⟨m, hm⟩ := h.max
  exact ⟨⟨m, hm⟩, World.block_lt_of_cell? _ _ hm⟩
def nmA : ByteArray := ⟨#[88, 45, 65]⟩
def nmS : ByteArray := ⟨#[83, 117, 98, 106, 101, 99, 116]⟩
def fst9 : ByteArray := ⟨#[102, 105, 114, 115, 116]⟩
def bodyW : List UInt8 := [83, 117, 98, 106, 101, 99, 116, 58, 32, 98, 111, 100, 121, 13, 10]
theorem namedA : Hd.Named nmA.data.toList := Hd.right_named.1 (by decide)
theorem namedS : Hd.Named nmS.data.toList := Hd.right_named.1 (by decide)
theorem putA_eq : Hd.putL nmA.data.toList fst9.data.toList = [88, 45, 65, 58, 32, 102, 105, 114, 115, 116, 13, 10] := by decide +kernel
theorem wh_facts (E : ByteArray) (hc : Hd.cleanL E.data.toList = E.data.toList) : ∃ m : List Hd.Fld, m.length = 2 ∧ (∀ x ∈ m, x.name.size ≤ 1000000 ∧ x.value.size ≤ 100 + 3 * E.size) ∧
    Hd.parS (Hd.putsL [(nmA, fst9), (nmS, E)] ++ ([13, 10] ++ bodyW)) = m ∧ Hd.endS (Hd.putsL [(nmA, fst9), (nmS, E)] ++ ([13, 10] ++ bodyW)) = (Hd.putsL [(nmA, fst9), (nmS, E)]).length + 2 ∧ allV m [115, 117, 98, 106, 101, 99, 116] = [E] := by
  have hn : ∀ p ∈ [(nmA, fst9), (nmS, E)], Hd.Named p.1.data.toList := fun p hp => by
    simp only [List.mem_cons, List.not_mem_nil, or_false] at hp
    rcases hp with rfl | rfl
    · exact namedA
    · exact namedS
  obtain ⟨p1, p2⟩ := Hd.apart_par bodyW _ hn
  refine ⟨_, rfl, fun x hx => ?_, p1, p2, ?_⟩
  · obtain ⟨p, hp, rfl⟩ := List.mem_map.1 hx
    obtain ⟨x1, e, hz, -⟩ := Hd.fldP_is (hn p hp)
    rw [e]
    have hl := Hd.put_le p.1.data.toList p.2.data.toList
    simp only [List.mem_cons, List.not_mem_nil, or_false] at hp
    rcases hp with rfl | rfl
    · refine ⟨by show nmA.size ≤ _; decide, ?_⟩
      show x1.size ≤ _
      have h1 : nmA.data.toList.length = 3 := rfl
      have h2 : fst9.data.toList.length = 5 := rfl
      have hz : x1.size ≤ (Hd.putL nmA.data.toList fst9.data.toList).length := hz
      have hl : (Hd.putL nmA.data.toList fst9.data.toList).length ≤ nmA.data.toList.length + 4 + 3 * fst9.data.toList.length := hl
      omega
    · refine ⟨by show nmS.size ≤ _; decide, ?_⟩
      show x1.size ≤ _
      have h1 : nmS.data.toList.length = 7 := rfl
      have h2 := dataL E
      have hz : x1.size ≤ (Hd.putL nmS.data.toList E.data.toList).length := hz
      have hl : (Hd.putL nmS.data.toList E.data.toList).length ≤ nmS.data.toList.length + 4 + 3 * E.data.toList.length := hl
      omega
  · have h := Hd.apart_all [115, 117, 98, 106, 101, 99, 116] [(nmA, fst9), (nmS, E)] hn
    have e1 : Hd.sameN [115, 117, 98, 106, 101, 99, 116] (nmA, fst9) = false := by
      show (Hd.smallL nmA.data.toList == Hd.smallL [115, 117, 98, 106, 101, 99, 116]) = false
      decide
    have e2 : Hd.sameN [115, 117, 98, 106, 101, 99, 116] (nmS, E) = true := by
      show (Hd.smallL nmS.data.toList == Hd.smallL [115, 117, 98, 106, 101, 99, 116]) = true
      decide
    have hf : [(nmA, fst9), (nmS, E)].filter (Hd.sameN [115, 117, 98, 106, 101, 99, 116]) = [(nmS, E)] := by
      rw [List.filter_cons, if_neg (by rw [e1]; decide), List.filter_cons, if_pos e2, List.filter_nil]
    have h2 : Hd.toB (Hd.cleanL E.data.toList) = E := by rw [hc]; exact toB_back E
    rw [hf] at h
    refine h.trans ?_
    show [Hd.toB (Hd.cleanL E.data.toList)] = [E]
    rw [h2]
theorem whCat (P1 P2 : ByteArray) (E : ByteArray) (h1 : P1.data.toList = Hd.putL nmA.data.toList fst9.data.toList) (h2 : P2.data.toList = Hd.putL nmS.data.toList E.data.toList) :
    (P1 ++ P2 ++ ⟨#[13, 10, 83, 117, 98, 106, 101, 99, 116, 58, 32, 98, 111, 100, 121, 13, 10]⟩ : ByteArray).data.toList = Hd.putsL [(nmA, fst9), (nmS, E)] ++ ([13, 10] ++ bodyW) := by
  rw [ByteArray.data_append, Array.toList_append, ByteArray.data_append, Array.toList_append, h1, h2]
  show _ = (Hd.putL nmA.data.toList fst9.data.toList ++ (Hd.putL nmS.data.toList E.data.toList ++ [])) ++ _
  rw [List.append_nil]; rfl
set_option maxHeartbeats 8000000 in
set_option maxRecDepth 100000 in
theorem headersLaw_any (s : ByteArray) (w : World) (h : Rdy w) (hup : s.size ≤ 1048576) :
    Calls Tryz.prog 3 #[.string s] w fun e w' => e = .returned (.bool true) ∧ Below w.heap.size w w' := by
  have H := Lib.hid h
  have tb := Below.refl w.heap.size w
  clear h
  by_cases hs : s.size ≤ 300
  · have hfa := fun w => fewW_any s w
    rw [decide_eq_true hs] at hfa
    have HFA := Lib.hid hfa
    clear hfa
    obtain ⟨E, -, hE, hEs⟩ := arr_ex (encW s.data.toList)
    obtain ⟨R, -, hR, hRs⟩ := arr_ex (repairL s.data.toList)
    have b1 := encW_length s.data.toList
    have ls : s.data.toList.length = s.size := rfl
    have hEn : E.size ≤ 23000 := by omega
    have b2 := repairL_length s.data.toList
    have hRn : R.size ≤ 900 := by omega
    have HEN := Lib.hid fun w' (tb : Below w.heap.size w w') => enc_rd s E w' (H.out.later tb) (by omega) hE
    have hok : ∀ c ∈ E.data.toList, Wd.okB c = true := by rw [hE]; exact enc_ok s.data.toList
    clear hEs hRs b1 b2 ls
    by_cases h0 : 0 < E.size
    · have q0 := neS h0
      have q1 : ((E[0].toNat : Int) == 32) = decide (E[0] = 32) := u8k 32 (by decide)
      have q2 : ((E[E.size - 1].toNat : Int) == 32) = decide (E[E.size - 1] = 32) := u8k 32 (by decide)
      have z1 : (0 : Int) < (E.size : Int) := by omega
      by_cases h1 : E[0] = 32
      · rw [decide_eq_true h1] at q1
        clear h1 hok hE hR q2
        go_enter Tryz.func3, Tryz.ntmps3
        go_wp2_with (first
            | (go_at_call 5; (with_reducible refine (smallW_any _ (H.out.later tb)).mono ?_); rintro e w1 ⟨rfl, hb1⟩; have tb := tb.trans (hb1.mono tb.size))
            | (go_at_call 7; (with_reducible refine (HFA.out _).mono ?_); rintro e w1 ⟨rfl, rfl⟩)
            | (go_at_call 6; (with_reducible refine (HEN.out _ tb).mono ?_); rintro e w1 ⟨rfl, hb1⟩; have tb := tb.trans (hb1.mono tb.size)))
        go_ret
        exact ⟨rfl, tb⟩
      · rw [decide_eq_false h1] at q1
        by_cases h2 : E[E.size - 1] = 32
        · rw [decide_eq_true h2] at q2
          clear h1 h2 hok hE hR
          go_enter Tryz.func3, Tryz.ntmps3
          go_wp2_with (first
            | (go_at_call 5; (with_reducible refine (smallW_any _ (H.out.later tb)).mono ?_); rintro e w1 ⟨rfl, hb1⟩; have tb := tb.trans (hb1.mono tb.size))
            | (go_at_call 7; (with_reducible refine (HFA.out _).mono ?_); rintro e w1 ⟨rfl, rfl⟩)
            | (go_at_call 6; (with_reducible refine (HEN.out _ tb).mono ?_); rintro e w1 ⟨rfl, hb1⟩; have tb := tb.trans (hb1.mono tb.size)))
          go_ret
          exact ⟨rfl, tb⟩
        · rw [decide_eq_false h2] at q2
          have hcl : Hd.cleanL E.data.toList = E.data.toList := Wh.clean_solid hok (by rw [data_cons E h0, List.head?_cons]; exact fun e => h1 (Option.some.inj e)) (by
            rw [List.getLast?_eq_getElem?, dataL, List.getElem?_eq_getElem (by rw [dataL]; omega)]
            exact fun e => h2 (Option.some.inj e))
          clear hok h1 h2
          have HDE := Lib.hid fun w' (tb : Below w.heap.size w w') => dec_rd E R w' (H.out.later tb) (by omega) (by rw [hR, hE, Wd.dec_enc])
          have HRp := Lib.hid fun w' (tb : Below w.heap.size w w') => rep_rd s R w' (H.out.later tb) (by omega) hR
          obtain ⟨m, f1, f2, f3, f4, f5⟩ := wh_facts E hcl
          obtain ⟨P1, hP1e, hP1d, hP1s⟩ := arrE (Hd.putL nmA.data.toList fst9.data.toList)
          obtain ⟨P2, hP2e, hP2d, hP2s⟩ := arrE (Hd.putL nmS.data.toList E.data.toList)
          have hpl := Hd.put_le nmS.data.toList E.data.toList
          rw [dataL E] at hpl
          have hnl : nmS.data.toList.length = 7 := rfl
          have hP1z : P1.size = 12 := by rw [hP1s, putA_eq]; rfl
          have hPA := fun w => put_any nmA fst9 w (by decide) (by decide)
          have hPS := fun w => put_any nmS E w (by decide) (by omega)
          have e1 : Hd.toB (Hd.putL nmA.data.toList fst9.data.toList) = P1 := hP1e.symm
          have e2 : Hd.toB (Hd.putL nmS.data.toList E.data.toList) = P2 := hP2e.symm
          rw [e1] at hPA
          rw [e2] at hPS
          have hPA : ∀ w, Calls Tryz.prog 9 #[.string ⟨#[88, 45, 65]⟩, .string ⟨#[102, 105, 114, 115, 116]⟩] w fun e w' => e = .returned (.string P1) ∧ Below w.heap.size w w' := hPA
          have hPS : ∀ w, Calls Tryz.prog 9 #[.string ⟨#[83, 117, 98, 106, 101, 99, 116]⟩, .string E] w fun e w' => e = .returned (.string P2) ∧ Below w.heap.size w w' := hPS
          have hcat := whCat P1 P2 E hP1d hP2d
          have g1 : (P1 ++ P2 : ByteArray).size = P1.size + P2.size := app_size _ _
          generalize hq1 : (P1 ++ P2 : ByteArray) = Q1 at *
          have g2 : (Q1 ++ ⟨#[13, 10, 83, 117, 98, 106, 101, 99, 116, 58, 32, 98, 111, 100, 121, 13, 10]⟩ : ByteArray).size = Q1.size + 17 := app_size _ _
          generalize hq2 : (Q1 ++ ⟨#[13, 10, 83, 117, 98, 106, 101, 99, 116, 58, 32, 98, 111, 100, 121, 13, 10]⟩ : ByteArray) = Q2 at *
          have hPar := fun w' hr => parse_rt Q2 w' hr (by omega)
          unfold ParIs at hPar
          rw [hcat, f3, f4] at hPar
          have hG := fun va w' hr hM => get_rt va m ⟨#[115, 117, 98, 106, 101, 99, 116]⟩ w' hr (by decide) (by omega) (fun x hx => ⟨(f2 x hx).1, by have := (f2 x hx).2; omega⟩) hM
          have f5' : allV m (⟨#[115, 117, 98, 106, 101, 99, 116]⟩ : ByteArray).data.toList = [E] := f5
          rw [f5'] at hG
          have hG : ∀ va w', Rt w' → seesG Hd.fldLay w' w'.heap.size 41 va m → Calls Tryz.prog 10 #[va, .string ⟨#[115, 117, 98, 106, 101, 99, 116]⟩] w' fun e w1 => e = .returned (.tuple #[.string E, .bool true]) ∧ Below w'.heap.size w' w1 := hG
          have hat : 0 < (Hd.putsL [(nmA, fst9), (nmS, E)]).length + 2 := by omega
          generalize (Hd.putsL [(nmA, fst9), (nmS, E)]).length + 2 = at' at hPar hat
          have y1 : decide ((0 : Int) < (at' : Int)) = true := decide_eq_true (by omega)
          have HPA := Lib.hid hPA
          have HPS := Lib.hid hPS
          have HPar := Lib.hid hPar
          have HG := Lib.hid hG
          have hP2z : P2.size ≤ 70000 := by omega
          clear hP1s hP2s hP1e hP1d hP2e hP2d hpl hPA hPS e1 e2 hcat hPar hG f2 f3 f4 f5 f5' hE hR hcl
          go_enter Tryz.func3, Tryz.ntmps3
          go_wp2_with (first
            | (go_at_call 5; (with_reducible refine (smallW_any _ (H.out.later tb)).mono ?_); rintro e w1 ⟨rfl, hb1⟩; have tb := tb.trans (hb1.mono tb.size))
            | (go_at_call 7; (with_reducible refine (HFA.out _).mono ?_); rintro e w1 ⟨rfl, rfl⟩)
            | (go_at_call 6; (with_reducible refine (HEN.out _ tb).mono ?_); rintro e w1 ⟨rfl, hb1⟩; have tb := tb.trans (hb1.mono tb.size))
            | (go_at_call 9; (with_reducible refine (HPA.out _).mono ?_); rintro e w1 ⟨rfl, hb1⟩; have tb := tb.trans (hb1.mono tb.size))
            | (go_at_call 9; (with_reducible refine (HPS.out _).mono ?_); rintro e w1 ⟨rfl, hb1⟩; have tb := tb.trans (hb1.mono tb.size))
            | (go_at_call 8; (with_reducible refine (HPar.out _ (rt_rdy (H.out.later tb))).mono ?_); rintro e w3 ⟨v3, rfl, hown3, hb3⟩; have tb := tb.trans (hb3.mono tb.size); have hs3 := ownsG.sees hown3 (Nat.le_refl _); obtain ⟨g3, c3, rfl, hc3, hg3, hcell3⟩ := sees_slice hs3 2 f1 (by decide); clear hcell3)
            | (go_at_call 10; (with_reducible refine (HG.out _ _ (rt_rdy (H.out.later tb)) hs3).mono ?_); rintro e w4 ⟨rfl, hb4⟩; have tb := tb.trans (hb4.mono tb.size))
            | (go_at_call 11; (with_reducible refine (HDE.out _ tb).mono ?_); rintro e w1 ⟨rfl, hb1⟩; have tb := tb.trans (hb1.mono tb.size))
            | (go_at_call 12; (with_reducible refine (HRp.out _ tb).mono ?_); rintro e w1 ⟨rfl, hb1⟩; have tb := tb.trans (hb1.mono tb.size)))
          go_ret
          exact ⟨rfl, tb⟩
    · have q0 := nilS (S := E) (by omega)
      have hcl : Hd.cleanL E.data.toList = E.data.toList := by
        have : E.data.toList = [] := List.eq_nil_of_length_eq_zero (by rw [dataL]; omega)
        rw [this]; rfl
      clear hok
      have HDE := Lib.hid fun w' (tb : Below w.heap.size w w') => dec_rd E R w' (H.out.later tb) (by omega) (by rw [hR, hE, Wd.dec_enc])
      have HRp := Lib.hid fun w' (tb : Below w.heap.size w w') => rep_rd s R w' (H.out.later tb) (by omega) hR
      obtain ⟨m, f1, f2, f3, f4, f5⟩ := wh_facts E hcl
      obtain ⟨P1, hP1e, hP1d, hP1s⟩ := arrE (Hd.putL nmA.data.toList fst9.data.toList)
      obtain ⟨P2, hP2e, hP2d, hP2s⟩ := arrE (Hd.putL nmS.data.toList E.data.toList)
      have hpl := Hd.put_le nmS.data.toList E.data.toList
      rw [dataL E] at hpl
      have hnl : nmS.data.toList.length = 7 := rfl
      have hP1z : P1.size = 12 := by rw [hP1s, putA_eq]; rfl
      have hPA := fun w => put_any nmA fst9 w (by decide) (by decide)
      have hPS := fun w => put_any nmS E w (by decide) (by omega)
      have e1 : Hd.toB (Hd.putL nmA.data.toList fst9.data.toList) = P1 := hP1e.symm
      have e2 : Hd.toB (Hd.putL nmS.data.toList E.data.toList) = P2 := hP2e.symm
      rw [e1] at hPA
      rw [e2] at hPS
      have hPA : ∀ w, Calls Tryz.prog 9 #[.string ⟨#[88, 45, 65]⟩, .string ⟨#[102, 105, 114, 115, 116]⟩] w fun e w' => e = .returned (.string P1) ∧ Below w.heap.size w w' := hPA
      have hPS : ∀ w, Calls Tryz.prog 9 #[.string ⟨#[83, 117, 98, 106, 101, 99, 116]⟩, .string E] w fun e w' => e = .returned (.string P2) ∧ Below w.heap.size w w' := hPS
      have hcat := whCat P1 P2 E hP1d hP2d
      have g1 : (P1 ++ P2 : ByteArray).size = P1.size + P2.size := app_size _ _
      generalize hq1 : (P1 ++ P2 : ByteArray) = Q1 at *
      have g2 : (Q1 ++ ⟨#[13, 10, 83, 117, 98, 106, 101, 99, 116, 58, 32, 98, 111, 100, 121, 13, 10]⟩ : ByteArray).size = Q1.size + 17 := app_size _ _
      generalize hq2 : (Q1 ++ ⟨#[13, 10, 83, 117, 98, 106, 101, 99, 116, 58, 32, 98, 111, 100, 121, 13, 10]⟩ : ByteArray) = Q2 at *
      have hPar := fun w' hr => parse_rt Q2 w' hr (by omega)
      unfold ParIs at hPar
      rw [hcat, f3, f4] at hPar
      have hG := fun va w' hr hM => get_rt va m ⟨#[115, 117, 98, 106, 101, 99, 116]⟩ w' hr (by decide) (by omega) (fun x hx => ⟨(f2 x hx).1, by have := (f2 x hx).2; omega⟩) hM
      have f5' : allV m (⟨#[115, 117, 98, 106, 101, 99, 116]⟩ : ByteArray).data.toList = [E] := f5
      rw [f5'] at hG
      have hG : ∀ va w', Rt w' → seesG Hd.fldLay w' w'.heap.size 41 va m → Calls Tryz.prog 10 #[va, .string ⟨#[115, 117, 98, 106, 101, 99, 116]⟩] w' fun e w1 => e = .returned (.tuple #[.string E, .bool true]) ∧ Below w'.heap.size w' w1 := hG
      have hat : 0 < (Hd.putsL [(nmA, fst9), (nmS, E)]).length + 2 := by omega
      generalize (Hd.putsL [(nmA, fst9), (nmS, E)]).length + 2 = at' at hPar hat
      have y1 : decide ((0 : Int) < (at' : Int)) = true := decide_eq_true (by omega)
      have HPA := Lib.hid hPA
      have HPS := Lib.hid hPS
      have HPar := Lib.hid hPar
      have HG := Lib.hid hG
      have hP2z : P2.size ≤ 70000 := by omega
      clear hP1s hP2s hP1e hP1d hP2e hP2d hpl hPA hPS e1 e2 hcat hPar hG f2 f3 f4 f5 f5' hE hR hcl
      go_enter Tryz.func3, Tryz.ntmps3
      go_wp2_with (first
        | (go_at_call 5; (with_reducible refine (smallW_any _ (H.out.later tb)).mono ?_); rintro e w1 ⟨rfl, hb1⟩; have tb := tb.trans (hb1.mono tb.size))
        | (go_at_call 7; (with_reducible refine (HFA.out _).mono ?_); rintro e w1 ⟨rfl, rfl⟩)
        | (go_at_call 6; (with_reducible refine (HEN.out _ tb).mono ?_); rintro e w1 ⟨rfl, hb1⟩; have tb := tb.trans (hb1.mono tb.size))
        | (go_at_call 9; (with_reducible refine (HPA.out _).mono ?_); rintro e w1 ⟨rfl, hb1⟩; have tb := tb.trans (hb1.mono tb.size))
        | (go_at_call 9; (with_reducible refine (HPS.out _).mono ?_); rintro e w1 ⟨rfl, hb1⟩; have tb := tb.trans (hb1.mono tb.size))
        | (go_at_call 8; (with_reducible refine (HPar.out _ (rt_rdy (H.out.later tb))).mono ?_); rintro e w3 ⟨v3, rfl, hown3, hb3⟩; have tb := tb.trans (hb3.mono tb.size); have hs3 := ownsG.sees hown3 (Nat.le_refl _); obtain ⟨g3, c3, rfl, hc3, hg3, hcell3⟩ := sees_slice hs3 2 f1 (by decide); clear hcell3)
        | (go_at_call 10; (with_reducible refine (HG.out _ _ (rt_rdy (H.out.later tb)) hs3).mono ?_); rintro e w4 ⟨rfl, hb4⟩; have tb := tb.trans (hb4.mono tb.size))
        | (go_at_call 11; (with_reducible refine (HDE.out _ tb).mono ?_); rintro e w1 ⟨rfl, hb1⟩; have tb := tb.trans (hb1.mono tb.size))
        | (go_at_call 12; (with_reducible refine (HRp.out _ tb).mono ?_); rintro e w1 ⟨rfl, hb1⟩; have tb := tb.trans (hb1.mono tb.size)))
      go_ret
      exact ⟨rfl, tb⟩
  · have hfa := fun w => fewW_any s w
    rw [decide_eq_false hs] at hfa
    have HFA := Lib.hid hfa
    clear hfa
    obtain ⟨E, -, hE, hEs⟩ := arr_ex (encW s.data.toList)
    have HEN := Lib.hid fun w' (tb : Below w.heap.size w w') => enc_rd s E w' (H.out.later tb) (by omega) hE
    clear hE hEs
    go_enter Tryz.func3, Tryz.ntmps3
    go_wp2_with (first
            | (go_at_call 5; (with_reducible refine (smallW_any _ (H.out.later tb)).mono ?_); rintro e w1 ⟨rfl, hb1⟩; have tb := tb.trans (hb1.mono tb.size))
            | (go_at_call 7; (with_reducible refine (HFA.out _).mono ?_); rintro e w1 ⟨rfl, rfl⟩)
            | (go_at_call 6; (with_reducible refine (HEN.out _ tb).mono ?_); rintro e w1 ⟨rfl, hb1⟩; have tb := tb.trans (hb1.mono tb.size)))
    go_ret
    exact ⟨rfl, tb⟩
end Go.Proofs.YtnclbbgdfaeilaaGreatDoor
