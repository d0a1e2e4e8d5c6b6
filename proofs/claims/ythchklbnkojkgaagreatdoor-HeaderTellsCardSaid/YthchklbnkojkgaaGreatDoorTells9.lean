/- Walks: chapter 09's laws: HeaderTells. -/
import Derived.Test.YthchklbnkojkgaaGreatDoorR09h
import Derived.Test.YthchklbnkojkgaaGreatDoorR09i
import Derived.Test.YthchklbnkojkgaaGreatDoorR09j
namespace Go.Proofs.YthchklbnkojkgaaGreatDoor
open Go.RowKit Pk Hd

def strsT (w : World) (v : Value) (l : List ByteArray) : Prop := ∃ p c, v = .slice p l.length c ∧ (l = [] ∨ ∃ g, p = some ⟨g, 0, none⟩ ∧ ∀ j (hj : j < l.length), w.cell? ⟨g, j, none⟩ = some (.string l[j]))
theorem strsT_of {w : World} {B : Nat} {e : TypeId} {v : Value} {l : List ByteArray} (h : ownsS w B e v l) : strsT w v l := by
  rcases h.form with ⟨hv, e0⟩ | ⟨g, c, hv, hg, hc, hcc, hcell⟩
  · subst e0; exact ⟨_, _, hv, .inl rfl⟩
  · exact ⟨_, _, hv, .inr ⟨g, rfl, hcell⟩⟩
theorem strsT.later {w w' : World} {v : Value} {l : List ByteArray} (h : strsT w v l) (hb : Below w.heap.size w w') : strsT w' v l := by
  obtain ⟨p, c, hv, h⟩ := h
  refine ⟨p, c, hv, ?_⟩
  rcases h with h | ⟨g, hp, hc⟩
  · exact .inl h
  · exact .inr ⟨g, hp, fun j hj => cell_later hb (hc j hj)⟩
set_option maxRecDepth 100000 in
theorem sameT9 (va vb : Value) (a : List ByteArray) (w : World) (hA : strsT w va a) (hB : strsT w vb a) (la : a.length ≤ 1000000) :
    Calls Tryz.prog 29 #[va, vb] w fun e w' => e = .returned (.bool true) ∧ Below w.heap.size w w' := by
  obtain ⟨pa, ca, rfl, hA⟩ := hA
  obtain ⟨pb, cb, rfl, hB⟩ := hB
  have q1 : ((a.length : Int) != (a.length : Int)) = false := by simp
  have HA := Lib.hid hA
  have HB := Lib.hid hB
  clear hA hB
  go_enter Tryz.func29, Tryz.ntmps29
  go_wp2
  go_loopw [5] (fun iv wr => ∃ (i : Nat), iv = .int .i64 i ∧ Below w.heap.size w wr ∧ i ≤ a.length) (fun iv _ => a.length - (intOf iv).toNat)
  case atStart => exact ⟨0, by first | rfl | trivial, Below.refl _ _, by omega⟩
  case round =>
    obtain ⟨i, rfl, hbel, hi⟩ := hrel
    by_cases hlt : i < a.length
    · rcases HA.out with h0 | ⟨ga, rfl, hca2⟩
      · rw [h0, List.length_nil] at hlt; omega
      · rcases HB.out with h0 | ⟨gb, rfl, hcb2⟩
        · rw [h0, List.length_nil] at hlt; omega
        · have c1 := cell_later hbel (hca2 i hlt)
          have c2 := cell_later hbel (hcb2 i hlt)
          generalize a[i] = x at c1 c2
          have hq : (x.toList == x.toList) = true := by simp
          clear hca2 hcb2
          go_wp2
          go_region
          go_wp2
          go_roundw
          case rel => exact ⟨i + 1, by go_num, hbel.drew, by omega⟩
          case measure => simp [intOf]; omega
    · go_wp2
      go_ret
      exact ⟨rfl, hbel⟩
theorem all_rt9 (v : Value) (m : List Fld) (s : ByteArray) (w : World) (h : Rt w) (hs : s.size ≤ 10000000) (hm : m.length ≤ 1000000) (hz : ∀ x ∈ m, x.name.size ≤ 1000000 ∧ x.value.size ≤ 1000000) (hM : seesG fldLay w w.heap.size 29 v m) :
    Calls Tryz.prog 22 #[v, .string s] w (TextsIs (allV m s.data.toList) w) := by
  obtain ⟨q, hq⟩ := h.ml
  exact all_any v m s w hs hm hz q hq hM
theorem trimR_len (l : List UInt8) : (trimR l).length ≤ l.length := trimR_le l
theorem fieldL_z (h : List UInt8) : (fieldL h).name.size ≤ h.length ∧ (fieldL h).value.size ≤ h.length := by
  have hl := lineN_le h
  have h1 : (nameL h).length ≤ h.length := by
    unfold nameL
    have a1 := (List.takeWhile_sublist (fun c : UInt8 => !(c == 58)) (l := bareL (h.take (lineN h)))).length_le
    have a2 := bare_le (h.take (lineN h))
    rw [List.length_take] at a2
    omega
  have h2 := trimR_le (nameL h)
  have h3 := bare_le (h.drop ((nameL h).length + 1))
  rw [List.length_drop] at h3
  unfold fieldL
  split
  · refine ⟨?_, ?_⟩
    · show (toB _).size ≤ _; rw [← dataL, toB_data]; omega
    · show (toB _).size ≤ _; rw [← dataL, toB_data]; omega
  · exact ⟨Nat.zero_le _, Nat.zero_le _⟩
theorem par_z : ∀ (f : Nat) (l : List UInt8), ∀ x ∈ parF f l, x.name.size ≤ l.length ∧ x.value.size ≤ l.length
  | 0, _, x, hx => by cases hx
  | f + 1, l, x, hx => by
    unfold parF at hx
    split at hx
    · cases hx
    · split at hx
      · cases hx
      · rcases List.mem_cons.1 hx with rfl | hx
        · have := fieldL_z (l.take (headN l))
          rw [List.length_take] at this
          exact ⟨by omega, by omega⟩
        · have := par_z f (l.drop (headN l)) x hx
          rw [List.length_drop] at this
          exact ⟨by omega, by omega⟩
theorem join_len (l : List UInt8) : (joinL (parS l)).length ≤ l.length := by
  obtain ⟨j, r, h1, h2, -⟩ := whole_any _ l (Nat.le_refl _)
  rw [h1, h2, List.length_append]; omega
set_option maxHeartbeats 16000000 in
set_option maxRecDepth 100000 in
theorem tells_of (s n v : ByteArray) (w : World) (h : Rt w) : Calls Tryz.prog 7 #[.string s, .string n, .string v] w (Truth w) := by
  have HS := Lib.hid (small9_any w h)
  have HR := Lib.hid h
  have hF1 := few9_any s
  have hF2 := few9_any n
  have hF3 := few9_any v
  by_cases a1 : s.size ≤ 5000
  · rw [decide_eq_true a1] at hF1
    have HF1 := Lib.hid hF1
    by_cases a2 : n.size ≤ 5000
    · rw [decide_eq_true a2] at hF2
      have HF2 := Lib.hid hF2
      by_cases a3 : v.size ≤ 5000
      · rw [decide_eq_true a3] at hF3
        have HF3 := Lib.hid hF3
        have hP := fun w' hr => parse_rt s w' hr (by omega)
        have hP2 := fun w => rparse_any s w (by omega)
        unfold ParIs at hP hP2
        have hml := par_length s.data.toList
        rw [dataL] at hml
        have hmz : ∀ x ∈ parS s.data.toList, x.name.size ≤ 1000000 ∧ x.value.size ≤ 1000000 := fun x hx => by
          have := par_z _ _ x hx
          rw [dataL] at this
          exact ⟨by omega, by omega⟩
        have hjl := join_len s.data.toList
        rw [dataL] at hjl
        have hU := fun w' hr => unfold_rt s w' hr (by omega)
        have hU2 := fun w => runfold_any s w (by omega)
        generalize parS s.data.toList = m at *
        generalize endS s.data.toList = en at *
        generalize toB (unfoldL s.data.toList) = U at *
        have hG := fun va w' hr hM => get_rt va m n w' hr (by omega) (by omega) hmz hM
        have hG2 := fun va w' hM => rget_any va m n w' (by omega) (by omega) hmz hM
        have hSM := fun va vb w' hA hB => same9_refl va vb m w' hA hB (by omega)
        have hJ := fun va w' hM => join_any va m w' hM (by omega) (by omega)
        have hJ2 := fun va w' hM => rjoin_any va m w' hM (by omega) (by omega)
        generalize toB (joinL m) = J at *
        have hA := fun va w' hr hM => all_rt9 va m n w' hr (by omega) (by omega) hmz hM
        have hA2 := fun va w' hM => rall_any va m n w' (by omega) (by omega) hmz hM
        have hall := allV_length m n.data.toList
        generalize allV m n.data.toList = xs at *
        have hA : ∀ va w', Rt w' → seesG fldLay w' w'.heap.size 29 va m → Calls Tryz.prog 22 #[va, .string n] w' fun e w1 => ∃ v, e = .returned v ∧ strsT w1 v xs ∧ Below w'.heap.size w' w1 := fun va w' hr hM => (hA va w' hr hM).mono fun e w1 ⟨v, h1, h2, h3⟩ => ⟨v, h1, strsT_of h2, h3⟩
        have hA2 : ∀ va w', seesG fldLay w' w'.heap.size 29 va m → Calls Tryz.prog 30 #[va, .string n] w' fun e w1 => ∃ v, e = .returned v ∧ strsT w1 v xs ∧ Below w'.heap.size w' w1 := fun va w' hM => (hA2 va w' hM).mono fun e w1 ⟨v, h1, h2, h3⟩ => ⟨v, h1, strsT_of h2, h3⟩
        have hST := fun va vb w' hA hB => sameT9 va vb xs w' hA hB (by omega)
        have hPu := fun w => put_any n v w (by omega) (by omega)
        have hPu2 := fun w => rput_any n v w (by omega) (by omega)
        generalize toB (putL n.data.toList v.data.toList) = P at *
        have hRt := fun w => right_any n w (by omega)
        have hRt2 := fun w => rright_any n w (by omega)
        generalize rightB n.data.toList = rb at *
        have HP := Lib.hid hP
        have HP2 := Lib.hid hP2
        have HSM := Lib.hid hSM
        have HJ := Lib.hid hJ
        have HJ2 := Lib.hid hJ2
        have HU := Lib.hid hU
        have HU2 := Lib.hid hU2
        have HA := Lib.hid hA
        have HA2 := Lib.hid hA2
        have HST := Lib.hid hST
        have HPu := Lib.hid hPu
        have HPu2 := Lib.hid hPu2
        have HRt := Lib.hid hRt
        have HRt2 := Lib.hid hRt2
        have tb := Below.refl w.heap.size w
        clear hF1 hF2 hF3 hP hP2 hSM hJ hJ2 hU hU2 hA hA2 hST hPu hPu2 hRt hRt2 hmz
        cases xs with
        | nil =>
          have hG : ∀ va w', Rt w' → seesG fldLay w' w'.heap.size 29 va m → Calls Tryz.prog 13 #[va, .string n] w' fun e w1 => e = .returned (.tuple #[.string ⟨#[]⟩, .bool false]) ∧ Below w'.heap.size w' w1 := hG
          have hG2 : ∀ va w', seesG fldLay w' w'.heap.size 29 va m → Calls Tryz.prog 25 #[va, .string n] w' fun e w1 => e = .returned (.tuple #[.string ⟨#[]⟩, .bool false]) ∧ Below w'.heap.size w' w1 := hG2
          have HG := Lib.hid hG
          have HG2 := Lib.hid hG2
          clear hG hG2
          go_enter Tryz.func7, Tryz.ntmps7
          go_wp2_with (first
            | (go_at_call 8; (with_reducible refine HS.out.mono ?_); rintro e w1 ⟨rfl, hb1⟩; have tb := tb.trans hb1)
            | (go_at_call 9; (with_reducible refine (HF1.out _).mono ?_); rintro e w1 ⟨rfl, rfl⟩)
            | (go_at_call 9; (with_reducible refine (HF2.out _).mono ?_); rintro e w1 ⟨rfl, rfl⟩)
            | (go_at_call 9; (with_reducible refine (HF3.out _).mono ?_); rintro e w1 ⟨rfl, rfl⟩)
            | (go_at_call 12; (with_reducible refine (HP.out _ (HR.out.later tb)).mono ?_); rintro e w2 ⟨v2, rfl, hown2, hb2⟩; have tb := tb.trans (hb2.mono tb.size); have hs2 := ownsG.sees hown2 (Nat.le_refl _))
            | (go_at_call 24; (with_reducible refine (HP2.out _).mono ?_); rintro e w3 ⟨v3, rfl, hown3, hb3⟩; have tb := tb.trans (hb3.mono tb.size); have hs3 := ownsG.sees hown3 (Nat.le_refl _); have hs2 := sees_later hs2 hb3; clear hown2 hown3)
            | (go_at_call 13; (with_reducible refine (HG.out _ _ (HR.out.later tb) hs2).mono ?_); rintro e w4 ⟨rfl, hb4⟩; have tb := tb.trans (hb4.mono tb.size); have hs2 := sees_later hs2 hb4; have hs3 := sees_later hs3 hb4)
            | (go_at_call 25; (with_reducible refine (HG2.out _ _ hs3).mono ?_); rintro e w5 ⟨rfl, hb5⟩; have tb := tb.trans (hb5.mono tb.size); have hs2 := sees_later hs2 hb5; have hs3 := sees_later hs3 hb5)
            | (go_at_call 20; (with_reducible refine (HSM.out _ _ _ hs2 hs3).mono ?_); rintro e w6 ⟨rfl, hb6⟩; have tb := tb.trans (hb6.mono tb.size); have hs2 := sees_later hs2 hb6; have hs3 := sees_later hs3 hb6)
            | (go_at_call 21; (with_reducible refine (HJ.out _ _ hs2).mono ?_); rintro e w7 ⟨rfl, hb7⟩; have tb := tb.trans (hb7.mono tb.size); have hs2 := sees_later hs2 hb7; have hs3 := sees_later hs3 hb7)
            | (go_at_call 26; (with_reducible refine (HJ2.out _ _ hs3).mono ?_); rintro e w8 ⟨rfl, hb8⟩; have tb := tb.trans (hb8.mono tb.size); have hs2 := sees_later hs2 hb8; have hs3 := sees_later hs3 hb8)
            | (go_at_call 27; (with_reducible refine (HU.out _ (HR.out.later tb)).mono ?_); rintro e w9 ⟨rfl, hb9⟩; have tb := tb.trans (hb9.mono tb.size); have hs2 := sees_later hs2 hb9; have hs3 := sees_later hs3 hb9)
            | (go_at_call 28; (with_reducible refine (HU2.out _).mono ?_); rintro e w10 ⟨rfl, hb10⟩; have tb := tb.trans (hb10.mono tb.size); have hs2 := sees_later hs2 hb10; have hs3 := sees_later hs3 hb10)
            | (go_at_call 22; (with_reducible refine (HA.out _ _ (HR.out.later tb) hs2).mono ?_); rintro e w11 ⟨v11, rfl, hs11, hb11⟩; have tb := tb.trans (hb11.mono tb.size); have hs3 := sees_later hs3 hb11)
            | (go_at_call 30; (with_reducible refine (HA2.out _ _ hs3).mono ?_); rintro e w12 ⟨v12, rfl, hs12, hb12⟩; have tb := tb.trans (hb12.mono tb.size); have hs11 := hs11.later hb12)
            | (go_at_call 29; (with_reducible refine (HST.out _ _ _ hs11 hs12).mono ?_); rintro e w13 ⟨rfl, hb13⟩; have tb := tb.trans (hb13.mono tb.size))
            | (go_at_call 11; (with_reducible refine (HPu.out _).mono ?_); rintro e w14 ⟨rfl, hb14⟩; have tb := tb.trans (hb14.mono tb.size))
            | (go_at_call 31; (with_reducible refine (HPu2.out _).mono ?_); rintro e w15 ⟨rfl, hb15⟩; have tb := tb.trans (hb15.mono tb.size))
            | (go_at_call 10; (with_reducible refine (HRt.out _).mono ?_); rintro e w1 ⟨rfl, rfl⟩)
            | (go_at_call 32; (with_reducible refine (HRt2.out _).mono ?_); rintro e w1 ⟨rfl, rfl⟩))
          go_ret
          exact ⟨rfl, tb⟩
        | cons x xs =>
          have hG : ∀ va w', Rt w' → seesG fldLay w' w'.heap.size 29 va m → Calls Tryz.prog 13 #[va, .string n] w' fun e w1 => e = .returned (.tuple #[.string x, .bool true]) ∧ Below w'.heap.size w' w1 := hG
          have hG2 : ∀ va w', seesG fldLay w' w'.heap.size 29 va m → Calls Tryz.prog 25 #[va, .string n] w' fun e w1 => e = .returned (.tuple #[.string x, .bool true]) ∧ Below w'.heap.size w' w1 := hG2
          have HG := Lib.hid hG
          have HG2 := Lib.hid hG2
          clear hG hG2
          generalize x :: xs = ys at *
          go_enter Tryz.func7, Tryz.ntmps7
          go_wp2_with (first
            | (go_at_call 8; (with_reducible refine HS.out.mono ?_); rintro e w1 ⟨rfl, hb1⟩; have tb := tb.trans hb1)
            | (go_at_call 9; (with_reducible refine (HF1.out _).mono ?_); rintro e w1 ⟨rfl, rfl⟩)
            | (go_at_call 9; (with_reducible refine (HF2.out _).mono ?_); rintro e w1 ⟨rfl, rfl⟩)
            | (go_at_call 9; (with_reducible refine (HF3.out _).mono ?_); rintro e w1 ⟨rfl, rfl⟩)
            | (go_at_call 12; (with_reducible refine (HP.out _ (HR.out.later tb)).mono ?_); rintro e w2 ⟨v2, rfl, hown2, hb2⟩; have tb := tb.trans (hb2.mono tb.size); have hs2 := ownsG.sees hown2 (Nat.le_refl _))
            | (go_at_call 24; (with_reducible refine (HP2.out _).mono ?_); rintro e w3 ⟨v3, rfl, hown3, hb3⟩; have tb := tb.trans (hb3.mono tb.size); have hs3 := ownsG.sees hown3 (Nat.le_refl _); have hs2 := sees_later hs2 hb3; clear hown2 hown3)
            | (go_at_call 13; (with_reducible refine (HG.out _ _ (HR.out.later tb) hs2).mono ?_); rintro e w4 ⟨rfl, hb4⟩; have tb := tb.trans (hb4.mono tb.size); have hs2 := sees_later hs2 hb4; have hs3 := sees_later hs3 hb4)
            | (go_at_call 25; (with_reducible refine (HG2.out _ _ hs3).mono ?_); rintro e w5 ⟨rfl, hb5⟩; have tb := tb.trans (hb5.mono tb.size); have hs2 := sees_later hs2 hb5; have hs3 := sees_later hs3 hb5)
            | (go_at_call 20; (with_reducible refine (HSM.out _ _ _ hs2 hs3).mono ?_); rintro e w6 ⟨rfl, hb6⟩; have tb := tb.trans (hb6.mono tb.size); have hs2 := sees_later hs2 hb6; have hs3 := sees_later hs3 hb6)
            | (go_at_call 21; (with_reducible refine (HJ.out _ _ hs2).mono ?_); rintro e w7 ⟨rfl, hb7⟩; have tb := tb.trans (hb7.mono tb.size); have hs2 := sees_later hs2 hb7; have hs3 := sees_later hs3 hb7)
            | (go_at_call 26; (with_reducible refine (HJ2.out _ _ hs3).mono ?_); rintro e w8 ⟨rfl, hb8⟩; have tb := tb.trans (hb8.mono tb.size); have hs2 := sees_later hs2 hb8; have hs3 := sees_later hs3 hb8)
            | (go_at_call 27; (with_reducible refine (HU.out _ (HR.out.later tb)).mono ?_); rintro e w9 ⟨rfl, hb9⟩; have tb := tb.trans (hb9.mono tb.size); have hs2 := sees_later hs2 hb9; have hs3 := sees_later hs3 hb9)
            | (go_at_call 28; (with_reducible refine (HU2.out _).mono ?_); rintro e w10 ⟨rfl, hb10⟩; have tb := tb.trans (hb10.mono tb.size); have hs2 := sees_later hs2 hb10; have hs3 := sees_later hs3 hb10)
            | (go_at_call 22; (with_reducible refine (HA.out _ _ (HR.out.later tb) hs2).mono ?_); rintro e w11 ⟨v11, rfl, hs11, hb11⟩; have tb := tb.trans (hb11.mono tb.size); have hs3 := sees_later hs3 hb11)
            | (go_at_call 30; (with_reducible refine (HA2.out _ _ hs3).mono ?_); rintro e w12 ⟨v12, rfl, hs12, hb12⟩; have tb := tb.trans (hb12.mono tb.size); have hs11 := hs11.later hb12)
            | (go_at_call 29; (with_reducible refine (HST.out _ _ _ hs11 hs12).mono ?_); rintro e w13 ⟨rfl, hb13⟩; have tb := tb.trans (hb13.mono tb.size))
            | (go_at_call 11; (with_reducible refine (HPu.out _).mono ?_); rintro e w14 ⟨rfl, hb14⟩; have tb := tb.trans (hb14.mono tb.size))
            | (go_at_call 31; (with_reducible refine (HPu2.out _).mono ?_); rintro e w15 ⟨rfl, hb15⟩; have tb := tb.trans (hb15.mono tb.size))
            | (go_at_call 10; (with_reducible refine (HRt.out _).mono ?_); rintro e w1 ⟨rfl, rfl⟩)
            | (go_at_call 32; (with_reducible refine (HRt2.out _).mono ?_); rintro e w1 ⟨rfl, rfl⟩))
          go_ret
          exact ⟨rfl, tb⟩
      · rw [decide_eq_false a3] at hF3
        have HF3 := Lib.hid hF3
        clear hF1 hF2 hF3
        go_enter Tryz.func7, Tryz.ntmps7
        go_wp2_with (first
          | (go_at_call 8; (with_reducible refine HS.out.mono ?_); rintro e w1 ⟨rfl, hb1⟩)
          | (go_at_call 9; (with_reducible refine (HF1.out _).mono ?_); rintro e w1 ⟨rfl, rfl⟩)
          | (go_at_call 9; (with_reducible refine (HF2.out _).mono ?_); rintro e w1 ⟨rfl, rfl⟩)
          | (go_at_call 9; (with_reducible refine (HF3.out _).mono ?_); rintro e w1 ⟨rfl, rfl⟩))
        go_ret
        exact ⟨rfl, hb1⟩
    · rw [decide_eq_false a2] at hF2
      have HF2 := Lib.hid hF2
      have HF3 := trivial
      clear hF1 hF2 hF3
      go_enter Tryz.func7, Tryz.ntmps7
      go_wp2_with (first
        | (go_at_call 8; (with_reducible refine HS.out.mono ?_); rintro e w1 ⟨rfl, hb1⟩)
        | (go_at_call 9; (with_reducible refine (HF1.out _).mono ?_); rintro e w1 ⟨rfl, rfl⟩)
        | (go_at_call 9; (with_reducible refine (HF2.out _).mono ?_); rintro e w1 ⟨rfl, rfl⟩)
        | (go_at_call 9; (with_reducible refine (HF3.out _).mono ?_); rintro e w1 ⟨rfl, rfl⟩))
      go_ret
      exact ⟨rfl, hb1⟩
  · rw [decide_eq_false a1] at hF1
    have HF1 := Lib.hid hF1
    have HF2 := trivial
    have HF3 := trivial
    clear hF1 hF2 hF3
    go_enter Tryz.func7, Tryz.ntmps7
    go_wp2_with (first
      | (go_at_call 8; (with_reducible refine HS.out.mono ?_); rintro e w1 ⟨rfl, hb1⟩)
      | (go_at_call 9; (with_reducible refine (HF1.out _).mono ?_); rintro e w1 ⟨rfl, rfl⟩)
      | (go_at_call 9; (with_reducible refine (HF2.out _).mono ?_); rintro e w1 ⟨rfl, rfl⟩)
      | (go_at_call 9; (with_reducible refine (HF3.out _).mono ?_); rintro e w1 ⟨rfl, rfl⟩))
    go_ret
    exact ⟨rfl, hb1⟩
end Go.Proofs.YthchklbnkojkgaaGreatDoor
