/- Walks: the law SubjectFields. -/
import Derived.Test.YtnclbbgdfaeilaaGreatDoorWhP
import Derived.Test.YtnclbbgdfaeilaaGreatDoorWd7x
import Derived.Test.YtnclbbgdfaeilaaGreatDoorRt9
import Derived.Test.YtnclbbgdfaeilaaGreatDoorLaid30
import Derived.Test.YtnclbbgdfaeilaaGreatDoorFold2
import Derived.Test.YtnclbbgdfaeilaaGreatDoorSubC
namespace Go.Proofs.YtnclbbgdfaeilaaGreatDoor
open Go.RowKit Pk U8

/-- what the law leans on -/
structure RdS (w : World) : Prop where
  rdy : Rdy w
  spans : ∃ b off cap, SpansAt w b off cap
theorem RdS.later {w w' : World} (h : RdS w) (hb : Below w.heap.size w w') : RdS w' := ⟨h.rdy.later hb, by obtain ⟨b, off, cap, h2⟩ := h.spans; exact ⟨b, off, cap, h2.later hb⟩⟩
theorem RdS.rt {w : World} (h : RdS w) : Rt w := by
  obtain ⟨m, hm⟩ := h.rdy.max
  exact ⟨⟨m, hm⟩, World.block_lt_of_cell? _ _ hm⟩
theorem baseS_rd (s : ByteArray) (w : World) (h : RdS w) (hs : s.size ≤ 3000000) :
    Calls Tryz.prog 16 #[.string s] w fun e w' => e = .returned (.string ⟨(Bs s.data.toList).toArray⟩) ∧ Below w.heap.size w w' := by
  obtain ⟨b, off, cap, h2⟩ := h.spans
  exact base_any s w h.rdy.tabs b off cap h2 hs
theorem againS_rd (s : ByteArray) (w : World) (h : RdS w) (hs : s.size ≤ 3000000) :
    Calls Tryz.prog 17 #[.string s] w fun e w' => e = .returned (.bool (Ag s.data.toList)) ∧ Below w.heap.size w w' := again_any s w h.rdy.tabs hs
theorem foldS_rd (s : ByteArray) (w : World) (h : RdS w) (hs : s.size ≤ 10000000) :
    Calls Tryz.prog 38 #[.string s] w fun e w' => e = .returned (.string ⟨(Fo.foldL s.data.toList).toArray⟩) ∧ Below w.heap.size w w' := by
  obtain ⟨b, off, cap, h2⟩ := h.spans
  exact foldP_any s w hs b off cap h2
set_option maxRecDepth 100000 in
theorem equalS_rd (a : ByteArray) (w : World) (h : RdS w) (ha : a.size ≤ 10000000) : Calls Tryz.prog 15 #[.string a, .string a] w fun e w' => e = .returned (.bool true) ∧ Below w.heap.size w w' := by
  have hA := fun w' (hb : Below w.heap.size w w') => foldS_rd a w' (h.later hb) ha
  generalize (⟨(Fo.foldL a.data.toList).toArray⟩ : ByteArray) = X at hA
  have hv : (X.toList == X.toList) = true := by simp
  have HA := Lib.hid hA
  have tb := Below.refl w.heap.size w
  clear hA h
  go_enter Tryz.func15, Tryz.ntmps15
  go_wp2_with (go_at_call 38; (with_reducible refine (HA.out _ tb).mono ?_); rintro e w1 ⟨rfl, hb1⟩; have tb := tb.trans (hb1.mono tb.size))
  go_ret
  exact ⟨by simp, tb⟩
set_option maxHeartbeats 4000000 in
set_option maxRecDepth 100000 in
theorem smallS_any (w : World) (h : RdS w) : Calls Tryz.prog 13 #[] w fun e w' => e = .returned (.bool true) ∧ Below w.heap.size w w' := by
  have e1 : Bs [82, 101, 58, 32, 91, 108, 105, 115, 116, 93, 32, 65, 87] = [97, 119] := by decide +kernel
  have e2 : Bs [32, 91, 120, 93, 32, 70, 119, 100, 58, 32, 91, 102, 119, 100, 58, 32, 114, 101, 32, 91, 51, 93, 58, 32, 72, 101, 108, 108, 111, 32, 93, 32, 40, 102, 119, 100, 41, 32] = [104, 101, 108, 108, 111] := by decide +kernel
  have e3 : Bs [91, 111, 110, 108, 121, 93] = [91, 111, 110, 108, 121, 93] := by decide +kernel
  have e4 : Ag [82, 69, 58, 120] = true := by decide +kernel
  have e5 : Ag [91, 108, 93, 32, 120, 32, 114, 101] = false := by decide +kernel
  have e6 : Bs [] = [] := by decide +kernel
  have H := Lib.hid h
  have tb := Below.refl w.heap.size w
  clear h
  go_enter Tryz.func13, Tryz.ntmps13
  go_wp2_with (first
            | (go_at_call 16; (with_reducible refine (baseS_rd _ _ (H.out.later tb) (by decide)).mono ?_); rintro e w1 ⟨rfl, hb1⟩; have tb := tb.trans (hb1.mono tb.size))
            | (go_at_call 17; (with_reducible refine (againS_rd _ _ (H.out.later tb) (by decide)).mono ?_); rintro e w1 ⟨rfl, hb1⟩; have tb := tb.trans (hb1.mono tb.size)))
  go_ret
  exact ⟨rfl, tb⟩
def nmSu : ByteArray := ⟨#[83, 117, 98, 106, 101, 99, 116]⟩
def nmRe : ByteArray := ⟨#[88, 45, 82, 101]⟩
theorem namedSu : Hd.Named nmSu.data.toList := Hd.right_named.1 (by decide)
theorem namedRe : Hd.Named nmRe.data.toList := Hd.right_named.1 (by decide)
def cleB (E : ByteArray) : ByteArray := Hd.toB (Hd.cleanL E.data.toList)
theorem cleB_data (E : ByteArray) : (cleB E).data.toList = Hd.cleanL E.data.toList := Hd.toB_data _
theorem cleB_size (E : ByteArray) : (cleB E).size ≤ E.size := by
  have := Hd.clean_le E.data.toList
  rw [dataL] at this
  rw [← dataL, cleB_data]; exact this
theorem sf_facts (E F : ByteArray) (hE : E.size ≤ 100000) (hF : F.size ≤ 100000) : ∃ (m : List Hd.Fld) (n : Nat), m.length = 2 ∧ (∀ x ∈ m, x.name.size ≤ 1000000 ∧ x.value.size ≤ 1000000) ∧
    Hd.parS (Hd.putsL [(nmSu, E), (nmRe, F)]) = m ∧ Hd.endS (Hd.putsL [(nmSu, E), (nmRe, F)]) = n ∧ allV m [115, 117, 98, 106, 101, 99, 116] = [cleB E] ∧ allV m [120, 45, 114, 101] = [cleB F] := by
  have hn : ∀ p ∈ [(nmSu, E), (nmRe, F)], Hd.Named p.1.data.toList := fun p hp => by
    simp only [List.mem_cons, List.not_mem_nil, or_false] at hp
    rcases hp with rfl | rfl
    · exact namedSu
    · exact namedRe
  obtain ⟨p1, p2⟩ := Wh.apart_par0 _ hn
  refine ⟨_, _, rfl, fun x hx => ?_, p1, p2, ?_, ?_⟩
  · obtain ⟨p, hp, rfl⟩ := List.mem_map.1 hx
    obtain ⟨x1, e, hz, -⟩ := Hd.fldP_is (hn p hp)
    rw [e]
    have hl := Hd.put_le p.1.data.toList p.2.data.toList
    simp only [List.mem_cons, List.not_mem_nil, or_false] at hp
    rcases hp with rfl | rfl
    · refine ⟨by show nmSu.size ≤ _; decide, ?_⟩
      show x1.size ≤ _
      have h1 : nmSu.data.toList.length = 7 := rfl
      have h2 := dataL E
      have hz : x1.size ≤ (Hd.putL nmSu.data.toList E.data.toList).length := hz
      have hl : (Hd.putL nmSu.data.toList E.data.toList).length ≤ nmSu.data.toList.length + 4 + 3 * E.data.toList.length := hl
      omega
    · refine ⟨by show nmRe.size ≤ _; decide, ?_⟩
      show x1.size ≤ _
      have h1 : nmRe.data.toList.length = 4 := rfl
      have h2 := dataL F
      have hz : x1.size ≤ (Hd.putL nmRe.data.toList F.data.toList).length := hz
      have hl : (Hd.putL nmRe.data.toList F.data.toList).length ≤ nmRe.data.toList.length + 4 + 3 * F.data.toList.length := hl
      omega
  · have h := Hd.apart_all [115, 117, 98, 106, 101, 99, 116] [(nmSu, E), (nmRe, F)] hn
    have e1 : Hd.sameN [115, 117, 98, 106, 101, 99, 116] (nmSu, E) = true := by
      show (Hd.smallL nmSu.data.toList == Hd.smallL [115, 117, 98, 106, 101, 99, 116]) = true
      decide
    have e2 : Hd.sameN [115, 117, 98, 106, 101, 99, 116] (nmRe, F) = false := by
      show (Hd.smallL nmRe.data.toList == Hd.smallL [115, 117, 98, 106, 101, 99, 116]) = false
      decide
    have hf : [(nmSu, E), (nmRe, F)].filter (Hd.sameN [115, 117, 98, 106, 101, 99, 116]) = [(nmSu, E)] := by
      rw [List.filter_cons, if_pos e1, List.filter_cons, if_neg (by rw [e2]; decide), List.filter_nil]
    rw [hf] at h
    exact h
  · have h := Hd.apart_all [120, 45, 114, 101] [(nmSu, E), (nmRe, F)] hn
    have e1 : Hd.sameN [120, 45, 114, 101] (nmSu, E) = false := by
      show (Hd.smallL nmSu.data.toList == Hd.smallL [120, 45, 114, 101]) = false
      decide
    have e2 : Hd.sameN [120, 45, 114, 101] (nmRe, F) = true := by
      show (Hd.smallL nmRe.data.toList == Hd.smallL [120, 45, 114, 101]) = true
      decide
    have hf : [(nmSu, E), (nmRe, F)].filter (Hd.sameN [120, 45, 114, 101]) = [(nmRe, F)] := by
      rw [List.filter_cons, if_neg (by rw [e1]; decide), List.filter_cons, if_pos e2, List.filter_nil]
    rw [hf] at h
    exact h
theorem sfCat (P1 P2 E F : ByteArray) (h1 : P1.data.toList = Hd.putL nmSu.data.toList E.data.toList) (h2 : P2.data.toList = Hd.putL nmRe.data.toList F.data.toList) :
    (P1 ++ P2 : ByteArray).data.toList = Hd.putsL [(nmSu, E), (nmRe, F)] := by
  rw [ByteArray.data_append, Array.toList_append, h1, h2]
  show _ = Hd.putL nmSu.data.toList E.data.toList ++ (Hd.putL nmRe.data.toList F.data.toList ++ [])
  rw [List.append_nil]
theorem key_base (X : List UInt8) : Bs (Wd.decW (Hd.cleanL (Wd.encW X))) = Bs X ∧ Ag (Wd.decW (Hd.cleanL (Wd.encW X))) = Ag X := by
  unfold Bs Ag
  rw [Wh.sf_key]
  exact ⟨rfl, rfl⟩
set_option maxHeartbeats 8000000 in
set_option maxRecDepth 100000 in
theorem fieldsLaw_any (s : ByteArray) (n : Int) (w : World) (h : RdS w) :
    Calls Tryz.prog 4 #[.string s, .int .i64 n] w fun e w' => e = .returned (.bool true) ∧ Below w.heap.size w w' := by
  have H := Lib.hid h
  have tb := Below.refl w.heap.size w
  clear h
  by_cases hs : s.size ≤ 500
  · have p1 : decide ((500 : Int) < (s.size : Int)) = false := decide_eq_false (by omega)
    have p2 : decide (500 < s.size) = false := decide_eq_false (by omega)
    have hla := fun w => laidP_any s n w (by omega)
    unfold LaidIs at hla
    have HLA := Lib.hid hla
    obtain ⟨E, -, hE, hEs⟩ := arr_ex (Wd.encW s.data.toList)
    have b1 := encW_length s.data.toList
    have ls : s.data.toList.length = s.size := rfl
    have hEn : E.size ≤ 39000 := by omega
    have HEN := Lib.hid fun w' (tb : Below w.heap.size w w') => enc_rd s E w' (H.out.later tb).rdy (by omega) hE
    obtain ⟨BB, hBe, hBB, hBBs⟩ := arr_ex (Bs s.data.toList)
    have hbl : (Bs s.data.toList).length ≤ 100000 := by
      have h1 := Fo.foldL_length (Su.red (Su.plain s.data.toList)).1
      have h2 := red_length _ (Su.plain s.data.toList) (Nat.le_refl _)
      have h3 := plain_length s.data.toList
      have h6 : Bs s.data.toList = Fo.foldL (Su.red (Su.plain s.data.toList)).1 := rfl
      rw [h6]; omega
    have hBS := fun w' (tb : Below w.heap.size w w') => baseS_rd s w' (H.out.later tb) (by omega)
    have HBe := Lib.hid hBe
    rw [← hBe] at hBS
    have HBS := Lib.hid hBS
    have HEQ := Lib.hid fun w' (tb : Below w.heap.size w w') => equalS_rd BB w' (H.out.later tb) (by omega)
    have hcE := cleB_size E
    have hcEd := cleB_data E
    obtain ⟨D1, -, hD1, hD1s⟩ := arr_ex (Wd.decW (cleB E).data.toList)
    have hd1 := decW_length (cleB E).data.toList
    rw [dataL] at hd1
    have HD1 := Lib.hid fun w' (tb : Below w.heap.size w w') => dec_rd (cleB E) D1 w' (H.out.later tb).rdy (by omega) hD1
    have hB1 := fun w' (tb : Below w.heap.size w w') => baseS_rd D1 w' (H.out.later tb) (by omega)
    rw [hD1, hcEd, hE, (key_base s.data.toList).1, ← hBe] at hB1
    have HB1 := Lib.hid hB1
    obtain ⟨P1, hP1e, hP1d, hP1s⟩ := arrE (Hd.putL nmSu.data.toList E.data.toList)
    have hpl := Hd.put_le nmSu.data.toList E.data.toList
    rw [dataL E] at hpl
    have hnl : nmSu.data.toList.length = 7 := rfl
    have hPS := fun w => put_any nmSu E w (by decide) (by omega)
    have e1 : Hd.toB (Hd.putL nmSu.data.toList E.data.toList) = P1 := hP1e.symm
    rw [e1] at hPS
    have hPS : ∀ w, Calls Tryz.prog 9 #[.string ⟨#[83, 117, 98, 106, 101, 99, 116]⟩, .string E] w fun e w' => e = .returned (.string P1) ∧ Below w.heap.size w w' := hPS
    have HPS := Lib.hid hPS
    have hP1z : P1.size ≤ 200000 := by omega
    have HP1d := Lib.hid hP1d
    have HFA := Lib.hid fun F hF => sf_facts E F (by omega) hF
    generalize hc1 : cleB E = A1 at *
    clear hla hBS hB1 hPS e1 hpl hnl hd1 hE hEs b1 hD1 hD1s hBe hBB hBBs hbl hcEd hP1e hP1s hP1d
    go_enter Tryz.func4, Tryz.ntmps4
    go_wp2_with (first
      | (go_at_call 13; (with_reducible refine (smallS_any _ (H.out.later tb)).mono ?_); rintro e w1 ⟨rfl, hb1⟩; have tb := tb.trans (hb1.mono tb.size))
      | (go_at_call 6; (with_reducible refine (HEN.out _ tb).mono ?_); rintro e w1 ⟨rfl, hb1⟩; have tb := tb.trans (hb1.mono tb.size))
      | (go_at_call 9; (with_reducible refine (HPS.out _).mono ?_); rintro e w1 ⟨rfl, hb1⟩; have tb := tb.trans (hb1.mono tb.size))
      | (go_at_call 14; (with_reducible refine (HLA.out _).mono ?_); rintro e w2 ⟨⟨X, rfl, hX1, hX2, hX3⟩, rfl⟩))
    obtain ⟨F, -, hF, hFs⟩ := arr_ex (Wd.encW X.data.toList)
    have b2 := encW_length X.data.toList
    have lX : X.data.toList.length = X.size := rfl
    have hFn : F.size ≤ 42000 := by omega
    have HEX := Lib.hid fun w' (tb : Below w.heap.size w w') => enc_rd X F w' (H.out.later tb).rdy (by omega) hF
    have hcF := cleB_size F
    have hcFd := cleB_data F
    obtain ⟨D2, -, hD2, hD2s⟩ := arr_ex (Wd.decW (cleB F).data.toList)
    have hd2 := decW_length (cleB F).data.toList
    rw [dataL] at hd2
    have HD2 := Lib.hid fun w' (tb : Below w.heap.size w w') => dec_rd (cleB F) D2 w' (H.out.later tb).rdy (by omega) hD2
    have hB2 := fun w' (tb : Below w.heap.size w w') => baseS_rd D2 w' (H.out.later tb) (by omega)
    have hA2 := fun w' (tb : Below w.heap.size w w') => againS_rd D2 w' (H.out.later tb) (by omega)
    rw [hD2, hcFd, hF, (key_base X.data.toList).1, hX2, ← HBe.out] at hB2
    rw [hD2, hcFd, hF, (key_base X.data.toList).2, hX3] at hA2
    have HB2 := Lib.hid hB2
    have HA2 := Lib.hid hA2
    obtain ⟨m, en, f1, f2, f3, f4, f5, f6⟩ := HFA.out F (by omega)
    obtain ⟨P2, hP2e, hP2d, hP2s⟩ := arrE (Hd.putL nmRe.data.toList F.data.toList)
    have hpl := Hd.put_le nmRe.data.toList F.data.toList
    rw [dataL F] at hpl
    have hnl : nmRe.data.toList.length = 4 := rfl
    have hPR := fun w => put_any nmRe F w (by decide) (by omega)
    have e2 : Hd.toB (Hd.putL nmRe.data.toList F.data.toList) = P2 := hP2e.symm
    rw [e2] at hPR
    have hPR : ∀ w, Calls Tryz.prog 9 #[.string ⟨#[88, 45, 82, 101]⟩, .string F] w fun e w' => e = .returned (.string P2) ∧ Below w.heap.size w w' := hPR
    have HPR := Lib.hid hPR
    have hcat := sfCat P1 P2 E F HP1d.out hP2d
    have g1 : (P1 ++ P2 : ByteArray).size = P1.size + P2.size := app_size _ _
    generalize hq1 : (P1 ++ P2 : ByteArray) = Q1 at *
    have hPar := fun w' hr => parse_rt Q1 w' hr (by omega)
    unfold ParIs at hPar
    rw [hcat, f3, f4] at hPar
    have hG := fun va w' hr hM => get_rt va m ⟨#[115, 117, 98, 106, 101, 99, 116]⟩ w' hr (by decide) (by omega) f2 hM
    have f5' : allV m (⟨#[115, 117, 98, 106, 101, 99, 116]⟩ : ByteArray).data.toList = [A1] := f5
    rw [f5'] at hG
    have hG : ∀ va w', Rt w' → seesG Hd.fldLay w' w'.heap.size 41 va m → Calls Tryz.prog 10 #[va, .string ⟨#[115, 117, 98, 106, 101, 99, 116]⟩] w' fun e w1 => e = .returned (.tuple #[.string A1, .bool true]) ∧ Below w'.heap.size w' w1 := hG
    generalize hc2 : cleB F = A2 at *
    have hG2 := fun va w' hr hM => get_rt va m ⟨#[120, 45, 114, 101]⟩ w' hr (by decide) (by omega) f2 hM
    have f6' : allV m (⟨#[120, 45, 114, 101]⟩ : ByteArray).data.toList = [A2] := f6
    rw [f6'] at hG2
    have hG2 : ∀ va w', Rt w' → seesG Hd.fldLay w' w'.heap.size 41 va m → Calls Tryz.prog 10 #[va, .string ⟨#[120, 45, 114, 101]⟩] w' fun e w1 => e = .returned (.tuple #[.string A2, .bool true]) ∧ Below w'.heap.size w' w1 := hG2
    have HPar := Lib.hid hPar
    have HG := Lib.hid hG
    have HG2 := Lib.hid hG2
    have hP2z : P2.size ≤ 200000 := by omega
    clear hP2s hB2 hA2 hpl hnl hPR e2 hcat hPar hG hG2 f2 f3 f4 f5 f5' f6 f6' hP2e hP2d hF hFs b2 lX hD2 hD2s hd2 hcFd hX2
    go_wp2_with (first
      | (go_at_call 6; (with_reducible refine (HEX.out _ tb).mono ?_); rintro e w1 ⟨rfl, hb1⟩; have tb := tb.trans (hb1.mono tb.size))
      | (go_at_call 9; (with_reducible refine (HPR.out _).mono ?_); rintro e w1 ⟨rfl, hb1⟩; have tb := tb.trans (hb1.mono tb.size))
      | (go_at_call 8; (with_reducible refine (HPar.out _ (H.out.later tb).rt).mono ?_); rintro e w3 ⟨v3, rfl, hown3, hb3⟩; have tb := tb.trans (hb3.mono tb.size); have hs3 := ownsG.sees hown3 (Nat.le_refl _); obtain ⟨g3, c3, rfl, hc3, hg3, hcell3⟩ := sees_slice hs3 2 f1 (by decide); clear hcell3)
      | (go_at_call 10; (with_reducible refine (HG.out _ _ (H.out.later tb).rt hs3).mono ?_); rintro e w4 ⟨rfl, hb4⟩; have tb := tb.trans (hb4.mono tb.size); have hs3 := sees_later hs3 hb4)
      | (go_at_call 10; (with_reducible refine (HG2.out _ _ (H.out.later tb).rt hs3).mono ?_); rintro e w5 ⟨rfl, hb5⟩; have tb := tb.trans (hb5.mono tb.size))
      | (go_at_call 11; (with_reducible refine (HD1.out _ tb).mono ?_); rintro e w1 ⟨rfl, hb1⟩; have tb := tb.trans (hb1.mono tb.size))
      | (go_at_call 11; (with_reducible refine (HD2.out _ tb).mono ?_); rintro e w1 ⟨rfl, hb1⟩; have tb := tb.trans (hb1.mono tb.size))
      | (go_at_call 16; (with_reducible refine (HB1.out _ tb).mono ?_); rintro e w1 ⟨rfl, hb1⟩; have tb := tb.trans (hb1.mono tb.size))
      | (go_at_call 16; (with_reducible refine (HB2.out _ tb).mono ?_); rintro e w1 ⟨rfl, hb1⟩; have tb := tb.trans (hb1.mono tb.size))
      | (go_at_call 16; (with_reducible refine (HBS.out _ tb).mono ?_); rintro e w1 ⟨rfl, hb1⟩; have tb := tb.trans (hb1.mono tb.size))
      | (go_at_call 15; (with_reducible refine (HEQ.out _ tb).mono ?_); rintro e w1 ⟨rfl, hb1⟩; have tb := tb.trans (hb1.mono tb.size))
      | (go_at_call 17; (with_reducible refine (HA2.out _ tb).mono ?_); rintro e w1 ⟨rfl, hb1⟩; have tb := tb.trans (hb1.mono tb.size)))
    go_ret
    exact ⟨rfl, tb⟩
  · have p1 : decide ((500 : Int) < (s.size : Int)) = true := decide_eq_true (by omega)
    have p2 : decide (500 < s.size) = true := decide_eq_true (by omega)
    go_enter Tryz.func4, Tryz.ntmps4
    go_wp2_with (go_at_call 13; (with_reducible refine (smallS_any _ (H.out.later tb)).mono ?_); rintro e w1 ⟨rfl, hb1⟩; have tb := tb.trans (hb1.mono tb.size))
    go_ret
    exact ⟨rfl, tb⟩
end Go.Proofs.YtnclbbgdfaeilaaGreatDoor
