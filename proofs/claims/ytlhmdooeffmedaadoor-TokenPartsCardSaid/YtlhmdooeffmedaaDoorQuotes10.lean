/- Walks: chapter 10's laws: TokenQuotes. -/
import Derived.Test.YtlhmdooeffmedaaDoorKeeps10
namespace Go.Proofs.YtlhmdooeffmedaaDoor
open Go.RowKit Pk Tk Su Fo Rp

theorem str_eqF {A B : ByteArray} (h : A.data.toList ≠ B.data.toList) : (A.toList == B.toList) = false ∧ decide (A = B) = false := by
  have h2 : A ≠ B := fun e => h (by rw [e])
  refine ⟨?_, decide_eq_false h2⟩
  rw [Lib.toList_data, Lib.toList_data]
  exact beq_eq_false_iff_ne.2 h
set_option maxHeartbeats 8000000 in
set_option maxRecDepth 100000 in
theorem quotes_of (hsm : SmallP) (s : ByteArray) (w : World) (h : Rt w) : Calls Tryd.prog 4 #[.string s] w (Truth w) := by
  have hS := hsm w h
  have HS := Lib.hid hS
  have hF := few10_any s
  by_cases hfew : s.size ≤ 400
  · rw [decide_eq_true hfew] at hF
    have HF := Lib.hid hF
    have hQ := fun w' (hb : Below w.heap.size w w') => quote_rt s w' (h.later hb) (by omega)
    have tb := Below.refl w.heap.size w
    cases hpl : plainQ s.data.toList with
    | true =>
      have hq : quoteL s.data.toList = s.data.toList := by unfold quoteL; rw [if_pos hpl]
      rw [hq] at hQ
      have hQ2 : ∀ w', Below w.heap.size w w' → Calls Tryd.prog 10 #[.string s] w' fun e w1 => e = .returned (.string s) ∧ Below w'.heap.size w' w1 := fun w' hb => (hQ w' hb).mono fun e w1 ⟨he, hb⟩ => ⟨by rw [he], hb⟩
      have HQ := Lib.hid hQ2
      have hsc := fun w' => scan_any s w' (by omega)
      have HSC := Lib.hid hsc
      have hlen := sc_length _ s.data.toList (Nat.le_refl _)
      rw [dataL] at hlen
      obtain ⟨hodd, halt⟩ := alt_at _ (sc_plain _ s.data.toList (Nat.le_refl _) hpl)
      generalize sc s.data.toList = m at HSC hlen hodd halt
      have HALT := Lib.hid halt
      have qodd : ((m.length : Int) % 2 == 1) = true := beq_iff_eq.2 (by omega)
      clear hS hF hQ hQ2 hq hpl hsc halt h
      go_enter Tryd.func4, Tryd.ntmps4
      go_wp2_with (first
        | (go_at_call 6; (with_reducible refine HS.out.mono ?_); rintro e w1 ⟨rfl, hb1⟩; have tb := tb.trans hb1)
        | (go_at_call 7; refine (HF.out _).mono ?_; rintro e w' ⟨rfl, rfl⟩)
        | (go_at_call 10; (with_reducible refine (HQ.out _ tb).mono ?_); rintro e w2 ⟨rfl, hb2⟩; have tb := tb.trans (hb2.mono tb.size))
        | (go_at_call 8; (with_reducible refine (HSC.out _).mono ?_); rintro e w3 ⟨v3, rfl, hown3, hb3⟩; have tb := tb.trans (hb3.mono tb.size); have hs3 := ownsE.sees hown3 (Nat.le_refl _); obtain ⟨p3, c3, rfl, hc3, hM3⟩ := hs3.form))
      rcases hM3 with rfl | ⟨g, rfl, hg, hM⟩
      · simp at hodd
      · have HM := Lib.hid hM
        clear hM hown3 hs3
        go_loop [6] (fun iv => ∃ i : Nat, iv = .int .i64 i ∧ i ≤ m.length) (fun iv => m.length - (intOf iv).toNat)
        case atStart => exact ⟨0, by first | rfl | trivial, by omega⟩
        case round =>
          obtain ⟨i, rfl, hi⟩ := hrel
          by_cases hlt : i < m.length
          · obtain ⟨c0, c1⟩ := HM.out i hlt
            obtain ⟨a0, a1⟩ := HALT.out i hlt
            by_cases hp : i % 2 = 0
            · have hk := a0 hp
              rw [hk] at c0
              have q1 : ((i : Int) % 2 == 0) = true := beq_iff_eq.2 (by omega)
              have q2 : ((i : Int) % 2 == 1) = false := beq_eq_false_iff_ne.2 (by omega)
              clear a0 a1 hk hp
              generalize m[i].text = T at c1
              go_wp2
              go_round
              case rel => exact ⟨i + 1, by go_num, by omega⟩
              case measure => simp [intOf]; omega
            · have hk := a1 (by omega)
              have q1 : ((i : Int) % 2 == 0) = false := beq_eq_false_iff_ne.2 (by omega)
              have q2 : ((i : Int) % 2 == 1) = true := beq_iff_eq.2 (by omega)
              have hT : m[i].text = ⟨#[32]⟩ := by
                generalize m[i].text = T at hk
                obtain ⟨⟨l⟩⟩ := T
                have hk : l = [32] := hk
                rw [hk]
              rw [hT] at c1
              clear a0 a1 hk hp hT
              generalize m[i].kind = k at c0
              go_wp2
              go_round
              case rel => exact ⟨i + 1, by go_num, by omega⟩
              case measure => simp [intOf]; omega
          · go_wp2
            go_ret
            exact ⟨rfl, tb⟩
    | false =>
      obtain ⟨l1, l2, l3, l4⟩ := quote_law s.data.toList hpl
      obtain ⟨Q, hQe, hQd, hQs⟩ := arrE (quoteL s.data.toList)
      unfold StrIs at hQ
      rw [← hQe] at hQ
      have HQ := Lib.hid hQ
      rw [← hQd] at l1 l2 l3 l4
      rw [dataL, dataL] at l3
      obtain ⟨e1, e2⟩ := str_eqF l4
      have hsc : ∀ w', Calls Tryd.prog 8 #[.string Q] w' (ToksIs [⟨2, Q⟩] w') := fun w' => by
        have h1 := scan_any Q w' (by omega)
        have hne : Q.data.toList ≠ [] := fun e => by rw [e] at l1; cases l1
        rw [sc_cons hne, l1, List.drop_length, sc_nil] at h1
        have ht : tok Q.data.toList = ⟨2, Q⟩ := by
          unfold tok
          rw [l1, List.take_length]
        rwa [ht] at h1
      have hv : ∀ w', Calls Tryd.prog 11 #[.agg #[.int .i64 2, .string Q]] w' fun e w1 => e = .returned (.string s) ∧ Below w'.heap.size w' w1 := fun w' => (value_any 2 Q w' (by omega)).mono fun e w1 ⟨he, hb⟩ => ⟨by rw [he, show (2 : Int) = ((2 : Nat) : Int) from rfl, valI_nat, l2], hb⟩
      have HSC := Lib.hid hsc
      have HV := Lib.hid hv
      have z1 : (Q.size : Int) ≤ 2 * (s.size : Int) + 2 := by omega
      clear hS hF hQ hpl hsc hv h l1 l2 l3 l4 hQe hQd hQs
      go_enter Tryd.func4, Tryd.ntmps4
      go_wp2_with (first
        | (go_at_call 6; (with_reducible refine HS.out.mono ?_); rintro e w1 ⟨rfl, hb1⟩; have tb := tb.trans hb1)
        | (go_at_call 7; refine (HF.out _).mono ?_; rintro e w' ⟨rfl, rfl⟩)
        | (go_at_call 10; (with_reducible refine (HQ.out _ tb).mono ?_); rintro e w2 ⟨rfl, hb2⟩; have tb := tb.trans (hb2.mono tb.size))
        | (go_at_call 8; (with_reducible refine (HSC.out _).mono ?_); rintro e w3 ⟨v3, rfl, hown3, hb3⟩; have tb := tb.trans (hb3.mono tb.size); have hs3 := ownsE.sees hown3 (Nat.le_refl _); obtain ⟨g3, c3, rfl, hc3, hg3, hcell3⟩ := sees_slice hs3 1 rfl Nat.one_pos; have d0 : w3.cell? ⟨g3, 0, none⟩ = some (.int .i64 2) := (hcell3 0 Nat.one_pos).1; have d1 : w3.cell? ⟨g3, 1, none⟩ = some (.string Q) := (hcell3 0 Nat.one_pos).2)
        | (go_at_call 11; (with_reducible refine (HV.out _).mono ?_); rintro e w4 ⟨rfl, hb4⟩; have tb := tb.trans (hb4.mono tb.size)))
      go_ret
      exact ⟨rfl, tb⟩
  · rw [decide_eq_false hfew] at hF
    have HF := Lib.hid hF
    clear hS hF h hfew
    go_enter Tryd.func4, Tryd.ntmps4
    go_wp2_with (first
      | (go_at_call 6; (with_reducible refine HS.out.mono ?_); rintro e w1 ⟨rfl, hb1⟩)
      | (go_at_call 7; refine (HF.out _).mono ?_; rintro e w' ⟨rfl, rfl⟩))
    go_ret
    exact ⟨rfl, hb1⟩
end Go.Proofs.YtlhmdooeffmedaaDoor
