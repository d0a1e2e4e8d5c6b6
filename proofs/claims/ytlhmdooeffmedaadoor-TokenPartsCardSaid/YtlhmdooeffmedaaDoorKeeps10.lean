/- Walks: chapter 10's laws: TokenKeeps. -/
import Derived.Test.YtlhmdooeffmedaaDoorLaw10
import Derived.Deep.QuietTactic
import Derived.BigQuiet
namespace Go.Proofs.YtlhmdooeffmedaaDoor
open Go.RowKit Pk Tk Su Fo Rp

set_option maxHeartbeats 400000 in
theorem few10_any (s : ByteArray) (w : World) : Calls Tryd.prog 7 #[.string s] w fun e w' => e = .returned (.bool (decide (s.size ≤ 400))) ∧ w = w' := by
  have e : decide (s.size ≤ 400) = decide ((s.size : Int) ≤ 400) := decide_eq_decide.2 (by omega)
  rw [e]
  clear e
  go_enter Tryd.func7, Tryd.ntmps7
  go_wp2
  go_ret
  exact ⟨rfl, rfl⟩
def SmallP : Prop := ∀ w : World, Rt w → Calls Tryd.prog 6 #[] w (Truth w)
set_option maxHeartbeats 8000000 in
set_option maxRecDepth 100000 in
theorem keeps_of (hsm : SmallP) (s : ByteArray) (w : World) (h : Rt w) : Calls Tryd.prog 3 #[.string s] w (Truth w) := by
  have hS := hsm w h
  have HS := Lib.hid hS
  have hF := few10_any s
  by_cases hfew : s.size ≤ 400
  · rw [decide_eq_true hfew] at hF
    have HF := Lib.hid hF
    have hsc := fun w' => scan_any s w' (by omega)
    have HSC := Lib.hid hsc
    have hjs := join_sc _ s.data.toList (Nat.le_refl _)
    have hlen := sc_length _ s.data.toList (Nat.le_refl _)
    rw [dataL] at hlen
    have hadj := adjE_at _ (sc_adj _ s.data.toList (Nat.le_refl _))
    have hone := sc_one s.data.toList
    generalize sc s.data.toList = m at HSC hjs hlen hadj hone
    have hsz : ∀ i (h : i < m.length), m[i].text.size ≤ 400 := fun i hi => by
      have e : m = m.take i ++ m[i] :: m.drop (i + 1) := by rw [← List.drop_eq_getElem_cons hi, List.take_append_drop]
      have := congrArg List.length hjs
      unfold joinE at this
      conv at this => lhs; rw [e]
      rw [List.flatMap_append, List.flatMap_cons, List.length_append, List.length_append, dataL, dataL] at this
      omega
    have hJ := fun v w' hM => join_any v m w' hM (by omega) (by rw [hjs, dataL]; omega)
    rw [hjs] at hJ
    have hJ2 : ∀ v w', seesE w' w'.heap.size 28 v m → Calls Tryd.prog 9 #[v] w' fun e w1 => e = .returned (.string s) ∧ Below w'.heap.size w' w1 := fun v w' hM => (hJ v w' hM).mono fun e w1 ⟨he, hb⟩ => ⟨by rw [he], hb⟩
    have HJ := Lib.hid hJ2
    have HADJ := Lib.hid hadj
    have HONE := Lib.hid hone
    have HSZ := Lib.hid hsz
    have tb := Below.refl w.heap.size w
    clear hS hF hsc hjs hadj hone hJ hJ2 hsz h
    go_enter Tryd.func3, Tryd.ntmps3
    go_wp2_with (first
      | (go_at_call 6; (with_reducible refine HS.out.mono ?_); rintro e w1 ⟨rfl, hb1⟩; have tb := tb.trans hb1)
      | (go_at_call 7; refine (HF.out _).mono ?_; rintro e w' ⟨rfl, rfl⟩)
      | (go_at_call 8; (with_reducible refine (HSC.out _).mono ?_); rintro e w2 ⟨v2, rfl, hown2, hb2⟩; have tb := tb.trans (hb2.mono tb.size); have hs2 := ownsE.sees hown2 (Nat.le_refl _))
      | (go_at_call 9; (with_reducible refine (HJ.out _ _ hs2).mono ?_); rintro e w3 ⟨rfl, hb3⟩; have tb := tb.trans (hb3.mono tb.size); have hs3 := sees_later hs2 hb3; obtain ⟨p3, c3, rfl, hc3, hM3⟩ := hs3.form))
    go_loopw [5, 6] (fun iv ov wr => ∃ i : Nat, iv = .int .i64 i ∧ i ≤ m.length ∧ Below w3.heap.size w3 wr) (fun iv _ _ => m.length - (intOf iv).toNat)
    case atStart => exact ⟨0, by first | rfl | trivial, by omega, Below.refl _ _⟩
    case round =>
      obtain ⟨i, rfl, hi, hbel⟩ := hrel
      have hz := hbel.size
      by_cases hlt : i < m.length
      · rcases hM3 with rfl | ⟨g, rfl, hg, hM⟩
        · simp at hlt
        · obtain ⟨h1, h2, h3, h4⟩ := HONE.out i hlt
          have hT := HSZ.out i hlt
          have hsc2 := fun w' => scan_any m[i].text w' (by omega)
          rw [h1] at hsc2
          obtain ⟨c0, c1⟩ := hM i hlt
          have c0 := cell_later hbel c0
          have c1 := cell_later hbel c1
          have hgz : g < wr.heap.size := by omega
          have hne := neS (S := m[i].text) (by omega)
          have hprev : 0 < i → ∃ kp : Nat, wr.cell? ⟨g, (i - 1) * 2, none⟩ = some (.int .i64 kp) ∧ (m[i].kind = kp → m[i].kind ≠ 6 ∧ m[i].kind ≠ 1) := fun h0 => by
            obtain ⟨j, rfl⟩ : ∃ j, i = j + 1 := ⟨i - 1, by omega⟩
            exact ⟨_, cell_later hbel (hM j (by omega)).1, HADJ.out j hlt⟩
          obtain ⟨⟨k, T⟩, hx⟩ : ∃ x, x = m[i] := ⟨_, rfl⟩
          rw [← hx] at hsc2 c0 c1 hne hprev h3 h4
          have h3 : 1 ≤ k := h3
          have h4 : k ≤ 7 := h4
          have c0 : wr.cell? ⟨g, i * 2, none⟩ = some (.int .i64 k) := c0
          have c1 : wr.cell? ⟨g, i * 2 + 1, none⟩ = some (.string T) := c1
          have hne : T.toList.isEmpty = false := hne
          have hprev : 0 < i → ∃ kp : Nat, wr.cell? ⟨g, (i - 1) * 2, none⟩ = some (.int .i64 kp) ∧ (k = kp → k ≠ 6 ∧ k ≠ 1) := hprev
          have HSC2 := Lib.hid hsc2
          have HP := Lib.hid hprev
          have z0 : (0 : Int) ≤ (i : Int) := by omega
          have z1 : (i : Int) < (m.length : Int) := by omega
          clear h1 h2 hT hsc2 hprev hx hM
          have q8 : decide ((k : Int) < 1) = false := decide_eq_false (by omega)
          have q9 : decide ((7 : Int) < (k : Int)) = false := decide_eq_false (by omega)
          by_cases h0 : 0 < i
          · obtain ⟨kp, cp, hkp⟩ := HP.out h0
            have z3 : ((i : Int) - 1).toNat = i - 1 := by omega
            have z4 : (0 : Int) ≤ (i : Int) - 1 := by omega
            have z7 : (1 : Int) ≤ (i : Int) := by omega
            have z8 : i - 1 < m.length := by omega
            have z5 : (i : Int) - 1 < (m.length : Int) := by omega
            have q10 : decide ((0 : Int) < (i : Int)) = true := decide_eq_true (by omega)
            have z6 : IntKind.i64.wrap ((i : Int) - 1) = (i : Int) - 1 := w64 rfl (by omega) (by omega)
            by_cases hq : k = kp
            · obtain ⟨n6, n1⟩ := hkp hq
              have q1 : ((k : Int) == (kp : Int)) = true := beq_iff_eq.2 (by omega)
              have q6 : ((k : Int) == 6) = false := beq_eq_false_iff_ne.2 (by omega)
              have q7 : ((k : Int) == 1) = false := beq_eq_false_iff_ne.2 (by omega)
              clear hq hkp HP
              go_wp2_with (go_at_call 8; (with_reducible refine (HSC2.out _).mono ?_); rintro e w4 ⟨v4, rfl, hown4, hb4⟩; have hs4 := ownsE.sees hown4 (Nat.le_refl _); obtain ⟨g4, c4, rfl, hc4, hg4, hcell4⟩ := sees_slice hs4 1 rfl (by decide))
              have c0 := cell_later hb4 c0
              have c1 := cell_later hb4 c1
              have d0 : w4.cell? ⟨g4, 0, none⟩ = some (.int .i64 k) := (hcell4 0 Nat.one_pos).1
              have d1 : w4.cell? ⟨g4, 1, none⟩ = some (.string T) := (hcell4 0 Nat.one_pos).2
              clear hcell4 hs4 hown4
              try dsimp only [List.append]
              have cp := cell_later hb4 cp
              go_quiet (fail)
              go_wp2
              go_roundw
              case rel => exact ⟨i + 1, by go_num, by omega, hbel.trans ((hb4.mono hz).trans ((below_drew _ _).mono (Nat.le_trans hz hb4.size)))⟩
              case measure => simp [intOf]; omega
            · have q1 : ((k : Int) == (kp : Int)) = false := beq_eq_false_iff_ne.2 (by omega)
              clear hq hkp HP
              go_wp2_with (go_at_call 8; (with_reducible refine (HSC2.out _).mono ?_); rintro e w4 ⟨v4, rfl, hown4, hb4⟩; have hs4 := ownsE.sees hown4 (Nat.le_refl _); obtain ⟨g4, c4, rfl, hc4, hg4, hcell4⟩ := sees_slice hs4 1 rfl (by decide))
              have c0 := cell_later hb4 c0
              have c1 := cell_later hb4 c1
              have d0 : w4.cell? ⟨g4, 0, none⟩ = some (.int .i64 k) := (hcell4 0 Nat.one_pos).1
              have d1 : w4.cell? ⟨g4, 1, none⟩ = some (.string T) := (hcell4 0 Nat.one_pos).2
              clear hcell4 hs4 hown4
              try dsimp only [List.append]
              have cp := cell_later hb4 cp
              go_quiet (fail)
              go_wp2
              go_roundw
              case rel => exact ⟨i + 1, by go_num, by omega, hbel.trans ((hb4.mono hz).trans ((below_drew _ _).mono (Nat.le_trans hz hb4.size)))⟩
              case measure => simp [intOf]; omega
          · obtain rfl : i = 0 := by omega
            have c0 : wr.cell? ⟨g, 0, none⟩ = some (.int .i64 k) := c0
            have c1 : wr.cell? ⟨g, 1, none⟩ = some (.string T) := c1
            clear h0 HP
            go_wp2_with (go_at_call 8; (with_reducible refine (HSC2.out _).mono ?_); rintro e w4 ⟨v4, rfl, hown4, hb4⟩; have hs4 := ownsE.sees hown4 (Nat.le_refl _); obtain ⟨g4, c4, rfl, hc4, hg4, hcell4⟩ := sees_slice hs4 1 rfl (by decide))
            have c0 := cell_later hb4 c0
            have c1 := cell_later hb4 c1
            have d0 : w4.cell? ⟨g4, 0, none⟩ = some (.int .i64 k) := (hcell4 0 Nat.one_pos).1
            have d1 : w4.cell? ⟨g4, 1, none⟩ = some (.string T) := (hcell4 0 Nat.one_pos).2
            clear hcell4 hs4 hown4
            try dsimp only [List.append]
            go_quiet (fail)
            go_wp2
            go_roundw
            case rel => exact ⟨0 + 1, by go_num, by omega, hbel.trans ((hb4.mono hz).trans ((below_drew _ _).mono (Nat.le_trans hz hb4.size)))⟩
            case measure => simp [intOf]; omega
      · clear hM3
        have tb2 := tb.trans (hbel.mono tb.size)
        go_wp2
        go_ret
        exact ⟨rfl, tb2⟩
  · rw [decide_eq_false hfew] at hF
    have HF := Lib.hid hF
    clear hS hF h hfew
    go_enter Tryd.func3, Tryd.ntmps3
    go_wp2_with (first
      | (go_at_call 6; (with_reducible refine HS.out.mono ?_); rintro e w1 ⟨rfl, hb1⟩)
      | (go_at_call 7; refine (HF.out _).mono ?_; rintro e w' ⟨rfl, rfl⟩))
    go_ret
    exact ⟨rfl, hb1⟩
end Go.Proofs.YtlhmdooeffmedaaDoor
