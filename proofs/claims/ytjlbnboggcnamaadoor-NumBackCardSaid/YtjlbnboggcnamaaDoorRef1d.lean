/- Walk: the reference of layer 1: Parse. -/
import Derived.Test.YtjlbnboggcnamaaDoorRef1c
import Derived.Deep.DeepCutAuto
import Derived.Deep.CutBlock
namespace Go.Proofs.YtjlbnboggcnamaaDoor
open Go.RowKit Pk Hx C1

theorem ret_ibr {a b : Int} {x y : Bool} (h : a = b) (h' : x = y) : Ending.returned (.tuple #[.int .i64 a, .bool x]) = .returned (.tuple #[.int .i64 b, .bool y]) := by rw [h, h']
/-- the loop's state: the digits so far spell m -/
def DigIs (D : ByteArray) (k m : Nat) : Prop := m = val 0 (D.data.toList.take k) ∧ ∀ c ∈ D.data.toList.take k, digC c = true
theorem dig_step {D : ByteArray} {k m : Nat} (h : DigIs D k m) (hk : k < D.size) (hd : 48 ≤ D[k].toNat ∧ D[k].toNat ≤ 57) : DigIs D (k + 1) (10 * m + (D[k].toNat - 48)) := by
  obtain ⟨h1, h2⟩ := h
  have e : D.data.toList.take (k + 1) = D.data.toList.take k ++ [D[k]] := by rw [List.take_succ_eq_append_getElem (by simpa using hk)]; rfl
  refine ⟨by rw [e, val_snoc, ← h1]; omega, fun c hc => ?_⟩
  rw [e] at hc
  rcases List.mem_append.1 hc with hc | hc
  · exact h2 c hc
  · rw [List.mem_singleton] at hc; subst hc; exact (digC_iff _).2 hd
theorem val_split : ∀ (a b : List UInt8) (acc : Nat), val acc a ≤ val acc (a ++ b)
  | [], b, _ => val_ge b _
  | _ :: r, b, _ => val_split r b _
theorem none_big {l : List UInt8} {D : ByteArray} {k m : Nat} (hb : D.data.toList = body l) (h : DigIs D k m) (hm : 9223372036854775808 < m) : prs l = none :=
  prs_none fun hc => by
    have h1 : val 0 (D.data.toList.take k) ≤ val 0 D.data.toList := by
      have := val_split (D.data.toList.take k) (D.data.toList.drop k) 0
      rwa [List.take_append_drop] at this
    rw [← h.1, hb] at h1
    obtain ⟨-, c1, c2⟩ := hc
    unfold ival at c1 c2
    by_cases hn : negL l = true
    · rw [if_pos hn] at c1; omega
    · rw [if_neg hn] at c2; omega
theorem none_dig {l : List UInt8} {s : ByteArray} {p : Nat} (hb : s.data.toList = body l) (hp : p < s.size) (hd : ¬ (48 ≤ s[p].toNat ∧ s[p].toNat ≤ 57)) : prs l = none :=
  prs_none fun h => by
    have := h.1.1 s[p] (by rw [← hb]; exact List.getElem_mem _)
    exact hd ((digC_iff _).1 this)
theorem quo_min (q : Int) (h0 : 0 ≤ q) (h1 : q ≤ 9) : IntKind.i64.wrap ((-9223372036854775808 + q).tdiv 10) = -((9223372036854775808 - q) / 10) := by
  have e : (-9223372036854775808 + q).tdiv 10 = -((9223372036854775808 - q) / 10) := by
    rw [← Int.tdiv_eq_ediv_of_nonneg (a := 9223372036854775808 - q) (by omega), show (-9223372036854775808 + q) = -(9223372036854775808 - q) by omega, Int.neg_tdiv]
  rw [e]
  exact w64 rfl (by omega) (by omega)
theorem head_of {l : List UInt8} {c : UInt8} {r : List UInt8} (h : l = c :: r) : (negL l = true ↔ c = 45) := by
  subst h; unfold negL; simp

set_option maxHeartbeats 4000000 in
theorem parseR_any (s : ByteArray) (lo hi : Int) (w : World) (hs : s.size ≤ 1000000) :
    Calls Tryd.prog 8 #[.string s, .int .i64 lo, .int .i64 hi] w fun e w' => e = .returned (.tuple #[.int .i64 (parseL s.data.toList lo hi).1, .bool (parseL s.data.toList lo hi).2]) ∧ Below w.heap.size w w' := by
  obtain ⟨nb, hnb⟩ : ∃ nb, nb = negL s.data.toList := ⟨_, rfl⟩
  obtain ⟨D, hDb⟩ : ∃ D : ByteArray, D = if nb = true then s.extract 1 s.size else s := ⟨_, rfl⟩
  have hpos : nb = true → 0 < s.size := fun h => by
    rw [hnb] at h
    unfold negL at h
    rcases Nat.eq_zero_or_pos s.size with h' | h'
    · rw [List.eq_nil_of_length_eq_zero (show s.data.toList.length = 0 from h')] at h; cases h
    · exact h'
  have hDl : D.data.toList = body s.data.toList := by
    rw [hDb]
    unfold body
    rw [← hnb]
    split
    · rw [show (s.extract 1 s.size).data.toList = (s.data.toList.drop 1).take (s.size - 1) by rw [← Lib.extract_toList, Lib.toList_data]]
      rw [List.take_of_length_le (by rw [List.length_drop]; show s.size - 1 ≤ s.size - 1; omega), List.drop_one]
    · rfl
  have hDs : D.size ≤ s.size := by
    have h1 : D.data.toList.length = D.size := rfl
    have h2 : s.data.toList.length = s.size := rfl
    rw [← h1, ← h2, hDl]
    unfold body; split <;> simp
  have HNB := Lib.hid hnb
  have HDB := Lib.hid hDb
  have HDL := Lib.hid hDl
  clear hnb hDb hDl
  go_enter Tryd.func8, Tryd.ntmps8
  go_upto_region 1 with fail
  go_cut [8] (fun v wc => wc = w ∧ v = .bool nb)
  case first =>
    by_cases h0 : 0 < s.size
    · have hc := (head_of (show s.data.toList = s[0] :: tl s 1 by rw [← tl_zero, tl_cons s 0 h0]))
      rw [← HNB.out] at hc
      by_cases h45 : s[0] = 45
      · obtain rfl : nb = true := hc.2 h45
        have q1 : ((s[0].toNat : Int) == 45) = true := by rw [h45]; rfl
        clear hc h45
        go_wp2
        go_meet
        exact ⟨rfl, rfl⟩
      · obtain rfl : nb = false := (Bool.not_eq_true nb).mp fun h => h45 (hc.1 h)
        have q1 : ((s[0].toNat : Int) == 45) = false := beq_eq_false_iff_ne.2 (fun e => h45 (by rw [← UInt8.toNat_inj]; show s[0].toNat = 45; omega))
        clear hc h45
        go_wp2
        go_meet
        exact ⟨rfl, rfl⟩
    · obtain rfl : nb = false := (Bool.not_eq_true nb).mp fun h => h0 (hpos h)
      go_wp2
      go_meet
      exact ⟨rfl, rfl⟩
  case rest =>
  obtain ⟨rfl, rfl⟩ := hcut
  go_upto_if 22 with fail
  go_cut [9] (fun v wc' => wc' = wc ∧ v = .string D)
  case first =>
    cases nb with
    | true =>
      have e := HDB.out
      rw [if_pos rfl] at e
      have h1 := hpos rfl
      subst e
      go_wp2
      go_meet
      exact ⟨rfl, rfl⟩
    | false =>
      have e := HDB.out
      rw [if_neg (by decide)] at e
      subst e
      go_wp2
      go_meet
      exact ⟨rfl, rfl⟩
  case rest =>
  obtain ⟨rfl, rfl⟩ := hcut
  go_wp2
  go_loop [10, 11] (fun nv iv => ∃ (k m : Nat), iv = .int .i64 k ∧ nv = .int .i64 (-(m : Int)) ∧ k ≤ D.size ∧ m ≤ 9223372036854775808 ∧ Hid (DigIs D k m)) (fun _ i => D.size - (intOf i).toNat)
  case atStart => exact ⟨0, 0, rfl, rfl, by omega, by omega, rfl, fun c hc => by simp at hc⟩
  case round =>
    obtain ⟨k, m, rfl, rfl, hk, hm, hdig⟩ := hrel
    by_cases hlt : k < D.size
    · have hb := D[k].toNat_lt
      by_cases hd : 48 ≤ D[k].toNat ∧ D[k].toNat ≤ 57
      · obtain ⟨q, hq⟩ : ∃ q : Nat, D[k].toNat = q + 48 := ⟨D[k].toNat - 48, by omega⟩
        have hst := dig_step hdig.out hlt hd
        rw [show D[k].toNat - 48 = q by omega] at hst
        have e0 : (D[k].toNat : Int) - 48 = q := by omega
        have q9 : q ≤ 9 := by omega
        have w1 : IntKind.i64.wrap (-9223372036854775808 + (q : Int)) = -9223372036854775808 + (q : Int) := w64 rfl (by omega) (by omega)
        have w2 := quo_min q (by omega) (by omega)
        clear hd hdig hq
        by_cases hov : 10 * m + q ≤ 9223372036854775808
        · have h1 : -((9223372036854775808 - (q : Int)) / 10) ≤ -(m : Int) := by omega
          have w3 : IntKind.i64.wrap (10 * -(m : Int)) = 10 * -(m : Int) := w64 rfl (by omega) (by omega)
          have w4 : IntKind.i64.wrap (10 * -(m : Int) - (q : Int)) = 10 * -(m : Int) - (q : Int) := w64 rfl (by omega) (by omega)
          have HST := Lib.hid hst
          clear hst
          go_wp2
          go_round
          case rel => exact ⟨k + 1, 10 * m + q, by go_num, by congr 1; omega, by omega, hov, HST⟩
          case measure => simp [intOf]; omega
        · have h1 : -(m : Int) < -((9223372036854775808 - (q : Int)) / 10) := by omega
          have hn := Lib.hid (none_big HDL.out hst (by omega))
          clear hst
          go_wp2
          go_ret2
          exact ⟨ret_ibr (by rw [parseL, hn.out]; rfl) (by rw [parseL, hn.out]; rfl), Below.refl _ _⟩
      · have hn := Lib.hid (none_dig HDL.out hlt hd)
        rcases (show D[k].toNat < 48 ∨ (48 ≤ D[k].toNat ∧ 57 < D[k].toNat) by omega) with d | ⟨d, d'⟩
        · have e1 : (D[k].toNat : Int) - 48 < 0 := by omega
          clear hd hdig
          go_wp2
          go_ret2
          exact ⟨ret_ibr (by rw [parseL, hn.out]; rfl) (by rw [parseL, hn.out]; rfl), Below.refl _ _⟩
        · have e1 : 0 ≤ (D[k].toNat : Int) - 48 := by omega
          have e2 : 9 < (D[k].toNat : Int) - 48 := by omega
          clear hd hdig
          go_wp2
          go_ret2
          exact ⟨ret_ibr (by rw [parseL, hn.out]; rfl) (by rw [parseL, hn.out]; rfl), Below.refl _ _⟩
    · have hv : val 0 (body s.data.toList) = m := by
        have := hdig.out.1
        rw [List.take_of_length_le (by show D.size ≤ k; omega), HDL.out] at this
        exact this.symm
      have hiv : ival s.data.toList = if nb = true then -(m : Int) else m := by
        unfold ival; rw [← HNB.out, hv]
      have HIV := Lib.hid hiv
      clear hdig hv hiv
      by_cases hmin : nb = false ∧ m = 9223372036854775808
      · obtain ⟨rfl, hm2⟩ := hmin
        have hF := Lib.hid (show parseL s.data.toList lo hi = (0, false) by
          rw [parseL, prs_none (fun h => by have e := HIV.out; rw [if_neg (by decide)] at e; omega)]; rfl)
        have q1 : (-(m : Int) == -9223372036854775808) = true := beq_iff_eq.2 (by omega)
        clear hm2
        go_wp2
        go_ret2
        rw [hF.out]
        exact ⟨rfl, Below.refl _ _⟩
      · obtain ⟨v, hv⟩ : ∃ v, v = ival s.data.toList := ⟨_, rfl⟩
        have hr1 : -9223372036854775808 ≤ v ∧ v ≤ 9223372036854775807 := by
          have e := HIV.out
          rw [← hv] at e
          cases nb with
          | true => rw [if_pos rfl] at e; omega
          | false =>
            rw [if_neg (by decide)] at e
            have : m ≠ 9223372036854775808 := fun h => hmin ⟨rfl, h⟩
            omega
        have hsl : (nb = true ∧ v = -(m : Int)) ∨ (nb = false ∧ v = (m : Int) ∧ (-(m : Int) == -9223372036854775808) = false) := by
          have e := HIV.out
          rw [← hv] at e
          cases nb with
          | true => left; rw [if_pos rfl] at e; exact ⟨rfl, e⟩
          | false =>
            right
            rw [if_neg (by decide)] at e
            have : m ≠ 9223372036854775808 := fun h => hmin ⟨rfl, h⟩
            exact ⟨rfl, e, beq_eq_false_iff_ne.2 (by omega)⟩
        obtain ⟨hr1, hr2⟩ := hr1
        have htx := fun w => textR_any v.natAbs v w (Nat.le_refl _) hr1 hr2
        clear HIV hmin
        by_cases hcan : C1.Can s.data.toList
        · rw [show Lib.itoa v = s.data.toList by rw [hv, itoa_ival hcan], show (⟨s.data.toList.toArray⟩ : ByteArray) = s by simp] at htx
          have HTX := Lib.hid htx
          have hps := prs_some hcan (by rw [← hv]; exact hr1) (by rw [← hv]; exact hr2)
          rw [← hv] at hps
          have HPS := Lib.hid hps
          clear htx hps hcan hv
          rcases (show v < lo ∨ (lo ≤ v ∧ hi < v) ∨ (lo ≤ v ∧ v ≤ hi) by omega) with c | ⟨c, c'⟩ | ⟨c, c'⟩
          · have HF := Lib.hid (show parseL s.data.toList lo hi = (0, false) by rw [parseL, HPS.out, pickR]; exact if_neg (by omega))
            rcases hsl with ⟨rfl, rfl⟩ | ⟨rfl, rfl, q1⟩
            all_goals
              go_wp2_with (go_at_call 12; go_must (refine (HTX.out _).mono ?_; rintro e w2 ⟨rfl, hb2⟩))
              go_ret2
              rw [HF.out]
              exact ⟨rfl, hb2⟩
          · have HF := Lib.hid (show parseL s.data.toList lo hi = (0, false) by rw [parseL, HPS.out, pickR]; exact if_neg (by omega))
            rcases hsl with ⟨rfl, rfl⟩ | ⟨rfl, rfl, q1⟩
            all_goals
              go_wp2_with (go_at_call 12; go_must (refine (HTX.out _).mono ?_; rintro e w2 ⟨rfl, hb2⟩))
              go_ret2
              rw [HF.out]
              exact ⟨rfl, hb2⟩
          · have HF := Lib.hid (show parseL s.data.toList lo hi = (v, true) by rw [parseL, HPS.out, pickR]; exact if_pos ⟨c, c'⟩)
            rcases hsl with ⟨rfl, rfl⟩ | ⟨rfl, rfl, q1⟩
            all_goals
              go_wp2_with (go_at_call 12; go_must (refine (HTX.out _).mono ?_; rintro e w2 ⟨rfl, hb2⟩))
              go_ret2
              rw [HF.out]
              exact ⟨rfl, hb2⟩
        · have hcT := can_itoa v
          obtain ⟨T, hT, hTl, hTs⟩ := arr_ex1 (Lib.itoa v)
          rw [← hT] at htx
          have HTX := Lib.hid htx
          have q2 : (!T.toList == s.toList) = true := by
            have : (T.toList == s.toList) = false := beq_eq_false_iff_ne.2 fun e => hcan (by
              rw [Lib.toList_data, Lib.toList_data, hTl] at e
              rw [← e]; exact hcT)
            rw [this]; rfl
          have HF := Lib.hid (show parseL s.data.toList lo hi = (0, false) by rw [parseL, prs_none (fun h => hcan h.1)]; rfl)
          clear htx hcT hT hTl hTs hcan hv
          rcases hsl with ⟨rfl, rfl⟩ | ⟨rfl, rfl, q1⟩
          all_goals
            go_wp2_with (go_at_call 12; go_must (refine (HTX.out _).mono ?_; rintro e w2 ⟨rfl, hb2⟩))
            go_ret2
            rw [HF.out]
            exact ⟨rfl, hb2⟩
end Go.Proofs.YtjlbnboggcnamaaDoor
