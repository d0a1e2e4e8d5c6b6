/- Walks: the reference of addresses: is, dots. Walks: the reference of addresses: Ids. Walks: the reference of addresses: Spec. Walks: the reference of addresses: One. Walks: the reference of addresses: Pieces. Walks: the reference of addresses: Parse. -/
import Derived.Test.YtilccofdphohiaaGreatDoorAdW4
import Derived.Test.YtilccofdphohiaaGreatDoorR10W
import Derived.Test.YtilccofdphohiaaGreatDoorAd8
import Derived.Test.YtilccofdphohiaaGreatDoorAdW6
namespace Go.Proofs.YtilccofdphohiaaGreatDoor
open Go.RowKit Pk Ad Tk Fo

theorem mk_ofR {B : ByteArray} {l : List UInt8} (h : B.data.toList = l) : (⟨l.toArray⟩ : ByteArray) = B := by
  obtain ⟨⟨k⟩⟩ := B
  have h : k = l := h
  rw [h]
set_option maxRecDepth 100000 in
theorem ris_any (b : UInt8) (k : Nat) (T : ByteArray) (w : World) : Calls Tryz.prog 55 #[.agg #[.int .i64 k, .string T], .string ⟨#[b]⟩] w fun e w' => e = .returned (.bool (isT b ⟨k, T⟩)) ∧ Below w.heap.size w w' := by
  rw [isT_eq]
  have tb := (Below.refl w.heap.size w).alloc (Nat.le_refl _) (.cells #[.int .i64 k, .string T] 43)
  have kk := heap_alloc_new w (.cells #[.int .i64 k, .string T] 43)
  have y0 := Lib.cell_of_heap kk 0
  have y1 := Lib.cell_of_heap kk 1
  have hb : (⟨#[b]⟩ : ByteArray).toList = [b] := by rw [Lib.toList_data]
  cases hk : ((k : Int) == 4) with
  | false =>
    go_enter Tryz.func55, Tryz.ntmps55
    go_wp2
    go_ret
    exact ⟨rfl, tb⟩
  | true =>
    cases hT : (T.toList == [b]) with
    | false =>
      go_enter Tryz.func55, Tryz.ntmps55
      go_wp2
      go_ret
      exact ⟨by first | rfl | (simp; done) | (simp [*]; done), tb⟩
    | true =>
      go_enter Tryz.func55, Tryz.ntmps55
      go_wp2
      go_ret
      exact ⟨by first | rfl | (simp; done) | (simp [*]; done), tb⟩
set_option maxHeartbeats 4000000 in
set_option maxRecDepth 100000 in
theorem rdots12_any (p : Option Addr) (n c : Nat) (m : List El) (w : World) (h : TSl w p n c m) (hn : n ≤ 10000000) (hv : (vals m).length ≤ 10000000) (hT : ∀ t ∈ m, t.text.size ≤ 100000000) : Calls Tryz.prog 84 #[.slice p n c, .int .i64 1, .int .i64 2] w (PairS (rowP 1 2 m) w) := by
  obtain ⟨hl, hc, hm⟩ := h
  have hz : Hid (RwAt 1 2 m 0 (⟨#[]⟩ : ByteArray).data.toList) := rw_start _ _ _
  have HL := Lib.hid hl
  have HM := Lib.hid hm
  have HT := Lib.hid hT
  have HV0 := Lib.hid hv
  have hp2 : ((n : Int).tmod 2) = (n : Int) % 2 := Int.tmod_eq_emod_of_nonneg (by omega)
  clear hl hm hT hv
  go_enter Tryz.func84, Tryz.ntmps84
  go_wp2
  go_loopg [8, 9, 10] n (fun g sv iv wv wr => ∃ (i : Nat) (S : ByteArray), sv = .string S ∧ iv = .int .i64 i ∧ i + g = n ∧ Below w.heap.size w wr ∧ S.size ≤ 10000000 ∧ Hid (RwAt 1 2 m i S.data.toList))
  case atStart => exact ⟨0, ⟨#[]⟩, by first | rfl | trivial, by first | rfl | trivial, by omega, Below.refl _ _, by decide, hz⟩
  case round =>
    clear hz
    obtain ⟨i, S, rfl, rfl, hig, tb, hSz, hrel⟩ := hrel
    by_cases hlt : i < n
    · have hlm : i < m.length := by rw [HL.out]; exact hlt
      obtain ⟨g, o, rfl, hcells⟩ : ∃ g o, p = some ⟨g, o, none⟩ ∧ tokAt w g o m := by
        rcases HM.out with h | h
        · rw [h] at hlm; simp at hlm
        · exact h
      obtain ⟨c0, c1⟩ := hcells i hlm
      have c0 := cell_later tb c0
      have c1 := cell_later tb c1
      obtain ⟨s1, s2⟩ := rw_step hrel.out hlm
      have hln := rw_len hrel.out hlm
      have hv := HV0.out
      have hTi := HT.out _ (List.getElem_mem hlm)
      have hV := fun w => rvalue_any (m[i].kind : Int) m[i].text w hTi
      rw [valI_E] at hV
      obtain ⟨V, hV1, hV2, hV3⟩ := arrE (valE m[i])
      unfold StrIs at hV
      rw [← hV1] at hV
      have hSV : (S ++ V : ByteArray).data.toList = S.data.toList ++ valE m[i] := by rw [ByteArray.data_append, Array.toList_append, hV2]
      have hSVz : (S ++ V : ByteArray).size = S.size + V.size := ByteArray.size_append
      have hln2 : S.size + V.size ≤ 10000000 := by rw [dataL] at hln; omega
      rw [← hSV] at s1 s2
      have HV := Lib.hid hV
      have HI := Lib.hid (fun w => ris_any 46 m[i].kind m[i].text w)
      have hT46 : isT 46 m[i] = isT 46 ⟨m[i].kind, m[i].text⟩ := rfl
      rw [hT46] at s1
      have z0 : (0 : Int) ≤ (i : Int) := by omega
      have z1 : (i : Int) < (n : Int) := by omega
      clear hrel hcells hTi hln hV hV1 hV2 hV3 hT46 hv hSV
      generalize m[i].kind = k at *
      generalize m[i].text = T at *
      by_cases hp : i % 2 = 1
      · have q1 : ((i : Int) % 2 == 1) = true := beq_iff_eq.2 (by omega)
        have q2 : ((i : Int) % 2 == 0) = false := beq_eq_false_iff_ne.2 (by omega)
        obtain ⟨y1, y2⟩ := s1 hp
        clear s1 s2 hlm
        generalize isT 46 ⟨k, T⟩ = tt at *
        cases tt with
        | true =>
          have hNX := y1 rfl
          by_cases ka : k = 1
          · have r1 : ((k : Int) == 1) = true := beq_iff_eq.2 (by omega)
            try clear kb
            try clear ka
            have HNX := Lib.hid hNX
            clear hNX y1 y2
            go_wp2_with (first
              | (go_at_call 55; (with_reducible refine (HI.out _).mono ?_); rintro e w1 ⟨rfl, hb1⟩; have tb := tb.trans (hb1.mono tb.size); have c0 := laterW hb1 c0; have c1 := laterW hb1 c1)
              | (go_at_call 57; (with_reducible refine (HV.out _).mono ?_); rintro e w3 ⟨rfl, hb3⟩; have tb := tb.trans (hb3.mono tb.size)))
            go_roundg (n - (i + 1))
            case rel => exact ⟨i + 1, S ++ V, rfl, by go_num, by omega, tb, by omega, HNX⟩
            case measure => omega
          · have r1 : ((k : Int) == 1) = false := beq_eq_false_iff_ne.2 (by omega)
            by_cases kb : k = 2
            · have r2 : ((k : Int) == 2) = true := beq_iff_eq.2 (by omega)
              try clear kb
              try clear ka
              have HNX := Lib.hid hNX
              clear hNX y1 y2
              go_wp2_with (first
                | (go_at_call 55; (with_reducible refine (HI.out _).mono ?_); rintro e w1 ⟨rfl, hb1⟩; have tb := tb.trans (hb1.mono tb.size); have c0 := laterW hb1 c0; have c1 := laterW hb1 c1)
                | (go_at_call 57; (with_reducible refine (HV.out _).mono ?_); rintro e w3 ⟨rfl, hb3⟩; have tb := tb.trans (hb3.mono tb.size)))
              go_roundg (n - (i + 1))
              case rel => exact ⟨i + 1, S ++ V, rfl, by go_num, by omega, tb, by omega, HNX⟩
              case measure => omega
            · have r2 : ((k : Int) == 2) = false := beq_eq_false_iff_ne.2 (by omega)
              try clear kb
              try clear ka
              have HNX := Lib.hid hNX
              clear hNX y1 y2
              go_wp2_with (first
                | (go_at_call 55; (with_reducible refine (HI.out _).mono ?_); rintro e w1 ⟨rfl, hb1⟩; have tb := tb.trans (hb1.mono tb.size); have c0 := laterW hb1 c0; have c1 := laterW hb1 c1)
                | (go_at_call 57; (with_reducible refine (HV.out _).mono ?_); rintro e w3 ⟨rfl, hb3⟩; have tb := tb.trans (hb3.mono tb.size)))
              go_roundg (n - (i + 1))
              case rel => exact ⟨i + 1, S ++ V, rfl, by go_num, by omega, tb, by omega, HNX⟩
              case measure => omega
        | false =>
          have hX := y2 rfl
          by_cases ka : k = 1
          · have r1 : ((k : Int) == 1) = true := beq_iff_eq.2 (by omega)
            try clear kb
            try clear ka
            have HX := Lib.hid hX
            clear hX y1 y2
            go_wp2_with (go_at_call 55; (with_reducible refine (HI.out _).mono ?_); rintro e w1 ⟨rfl, hb1⟩; have tb := tb.trans (hb1.mono tb.size))
            go_ret2
            rw [HX.out]
            exact ⟨rfl, tb⟩
          · have r1 : ((k : Int) == 1) = false := beq_eq_false_iff_ne.2 (by omega)
            by_cases kb : k = 2
            · have r2 : ((k : Int) == 2) = true := beq_iff_eq.2 (by omega)
              try clear kb
              try clear ka
              have HX := Lib.hid hX
              clear hX y1 y2
              go_wp2_with (go_at_call 55; (with_reducible refine (HI.out _).mono ?_); rintro e w1 ⟨rfl, hb1⟩; have tb := tb.trans (hb1.mono tb.size))
              go_ret2
              rw [HX.out]
              exact ⟨rfl, tb⟩
            · have r2 : ((k : Int) == 2) = false := beq_eq_false_iff_ne.2 (by omega)
              try clear kb
              try clear ka
              have HX := Lib.hid hX
              clear hX y1 y2
              go_wp2_with (go_at_call 55; (with_reducible refine (HI.out _).mono ?_); rintro e w1 ⟨rfl, hb1⟩; have tb := tb.trans (hb1.mono tb.size))
              go_ret2
              rw [HX.out]
              exact ⟨rfl, tb⟩
      · have q1 : ((i : Int) % 2 == 1) = false := beq_eq_false_iff_ne.2 (by omega)
        have q2 : ((i : Int) % 2 == 0) = true := beq_iff_eq.2 (by omega)
        obtain ⟨y1, y2⟩ := s2 (by omega)
        clear s1 s2 hlm
        by_cases ka : k = 1
        · have r1 : ((k : Int) == 1) = true := beq_iff_eq.2 (by omega)
          have hNX := y1 (.inl (by first | exact kb | exact ka))
          try clear kb
          try clear ka
          have HNX := Lib.hid hNX
          clear hNX y1 y2
          go_wp2_with (first
            | (go_at_call 55; (with_reducible refine (HI.out _).mono ?_); rintro e w1 ⟨rfl, hb1⟩; have tb := tb.trans (hb1.mono tb.size); have c0 := laterW hb1 c0; have c1 := laterW hb1 c1)
            | (go_at_call 57; (with_reducible refine (HV.out _).mono ?_); rintro e w3 ⟨rfl, hb3⟩; have tb := tb.trans (hb3.mono tb.size)))
          go_roundg (n - (i + 1))
          case rel => exact ⟨i + 1, S ++ V, rfl, by go_num, by omega, tb, by omega, HNX⟩
          case measure => omega
        · have r1 : ((k : Int) == 1) = false := beq_eq_false_iff_ne.2 (by omega)
          by_cases kb : k = 2
          · have r2 : ((k : Int) == 2) = true := beq_iff_eq.2 (by omega)
            have hNX := y1 (.inr (by first | exact kb | exact ka))
            try clear kb
            try clear ka
            have HNX := Lib.hid hNX
            clear hNX y1 y2
            go_wp2_with (first
              | (go_at_call 55; (with_reducible refine (HI.out _).mono ?_); rintro e w1 ⟨rfl, hb1⟩; have tb := tb.trans (hb1.mono tb.size); have c0 := laterW hb1 c0; have c1 := laterW hb1 c1)
              | (go_at_call 57; (with_reducible refine (HV.out _).mono ?_); rintro e w3 ⟨rfl, hb3⟩; have tb := tb.trans (hb3.mono tb.size)))
            go_roundg (n - (i + 1))
            case rel => exact ⟨i + 1, S ++ V, rfl, by go_num, by omega, tb, by omega, HNX⟩
            case measure => omega
          · have r2 : ((k : Int) == 2) = false := beq_eq_false_iff_ne.2 (by omega)
            have hX := y2 (fun hh => by rcases hh with hh | hh; exact ka hh; exact kb hh)
            try clear kb
            try clear ka
            have HX := Lib.hid hX
            clear hX y1 y2
            go_wp2_with (go_at_call 55; (with_reducible refine (HI.out _).mono ?_); rintro e w1 ⟨rfl, hb1⟩; have tb := tb.trans (hb1.mono tb.size))
            go_ret2
            rw [HX.out]
            exact ⟨rfl, tb⟩
    · obtain rfl : i = n := by omega
      obtain ⟨hX, hX2⟩ := rw_end hrel.out (by rw [HL.out]; exact hlt)
      have hS : S = ⟨(vals m).toArray⟩ := (mk_ofR hX).symm
      rw [HL.out] at hX2
      have HX := Lib.hid hX2
      have hS2 := Lib.hid hS
      clear hrel hX hX2 hS HM HT HV0
      rcases Nat.mod_two_eq_zero_or_one i with hp | hp
      · have q1 : ((i : Int) % 2 == 1) = false := beq_eq_false_iff_ne.2 (by omega)
        have q2 : Hid ((i % 2 == 1) = false) := by show _ = _; rw [hp]; rfl
        clear hp
        go_wp2
        go_ret2
        rw [HX.out]
        exact ⟨by rw [q2.out, ← hS2.out]; rfl, tb⟩
      · have q1 : ((i : Int) % 2 == 1) = true := beq_iff_eq.2 (by omega)
        have q2 : Hid ((i % 2 == 1) = true) := by show _ = _; rw [hp]; rfl
        clear hp
        go_wp2
        go_ret2
        rw [HX.out]
        exact ⟨by rw [q2.out, ← hS2.out]; rfl, tb⟩
set_option maxHeartbeats 4000000 in
set_option maxRecDepth 100000 in
theorem rdots11_any (p : Option Addr) (n c : Nat) (m : List El) (w : World) (h : TSl w p n c m) (hn : n ≤ 10000000) (hv : (vals m).length ≤ 10000000) (hT : ∀ t ∈ m, t.text.size ≤ 100000000) : Calls Tryz.prog 84 #[.slice p n c, .int .i64 1, .int .i64 1] w (PairS (rowP 1 1 m) w) := by
  obtain ⟨hl, hc, hm⟩ := h
  have hz : Hid (RwAt 1 1 m 0 (⟨#[]⟩ : ByteArray).data.toList) := rw_start _ _ _
  have HL := Lib.hid hl
  have HM := Lib.hid hm
  have HT := Lib.hid hT
  have HV0 := Lib.hid hv
  have hp2 : ((n : Int).tmod 2) = (n : Int) % 2 := Int.tmod_eq_emod_of_nonneg (by omega)
  clear hl hm hT hv
  go_enter Tryz.func84, Tryz.ntmps84
  go_wp2
  go_loopg [8, 9, 10] n (fun g sv iv wv wr => ∃ (i : Nat) (S : ByteArray), sv = .string S ∧ iv = .int .i64 i ∧ i + g = n ∧ Below w.heap.size w wr ∧ S.size ≤ 10000000 ∧ Hid (RwAt 1 1 m i S.data.toList))
  case atStart => exact ⟨0, ⟨#[]⟩, by first | rfl | trivial, by first | rfl | trivial, by omega, Below.refl _ _, by decide, hz⟩
  case round =>
    clear hz
    obtain ⟨i, S, rfl, rfl, hig, tb, hSz, hrel⟩ := hrel
    by_cases hlt : i < n
    · have hlm : i < m.length := by rw [HL.out]; exact hlt
      obtain ⟨g, o, rfl, hcells⟩ : ∃ g o, p = some ⟨g, o, none⟩ ∧ tokAt w g o m := by
        rcases HM.out with h | h
        · rw [h] at hlm; simp at hlm
        · exact h
      obtain ⟨c0, c1⟩ := hcells i hlm
      have c0 := cell_later tb c0
      have c1 := cell_later tb c1
      obtain ⟨s1, s2⟩ := rw_step hrel.out hlm
      have hln := rw_len hrel.out hlm
      have hv := HV0.out
      have hTi := HT.out _ (List.getElem_mem hlm)
      have hV := fun w => rvalue_any (m[i].kind : Int) m[i].text w hTi
      rw [valI_E] at hV
      obtain ⟨V, hV1, hV2, hV3⟩ := arrE (valE m[i])
      unfold StrIs at hV
      rw [← hV1] at hV
      have hSV : (S ++ V : ByteArray).data.toList = S.data.toList ++ valE m[i] := by rw [ByteArray.data_append, Array.toList_append, hV2]
      have hSVz : (S ++ V : ByteArray).size = S.size + V.size := ByteArray.size_append
      have hln2 : S.size + V.size ≤ 10000000 := by rw [dataL] at hln; omega
      rw [← hSV] at s1 s2
      have HV := Lib.hid hV
      have HI := Lib.hid (fun w => ris_any 46 m[i].kind m[i].text w)
      have hT46 : isT 46 m[i] = isT 46 ⟨m[i].kind, m[i].text⟩ := rfl
      rw [hT46] at s1
      have z0 : (0 : Int) ≤ (i : Int) := by omega
      have z1 : (i : Int) < (n : Int) := by omega
      clear hrel hcells hTi hln hV hV1 hV2 hV3 hT46 hv hSV
      generalize m[i].kind = k at *
      generalize m[i].text = T at *
      by_cases hp : i % 2 = 1
      · have q1 : ((i : Int) % 2 == 1) = true := beq_iff_eq.2 (by omega)
        have q2 : ((i : Int) % 2 == 0) = false := beq_eq_false_iff_ne.2 (by omega)
        obtain ⟨y1, y2⟩ := s1 hp
        clear s1 s2 hlm
        generalize isT 46 ⟨k, T⟩ = tt at *
        cases tt with
        | true =>
          have hNX := y1 rfl
          by_cases ka : k = 1
          · have r1 : ((k : Int) == 1) = true := beq_iff_eq.2 (by omega)
            have kb := ka
            try clear kb
            try clear ka
            have HNX := Lib.hid hNX
            clear hNX y1 y2
            go_wp2_with (first
              | (go_at_call 55; (with_reducible refine (HI.out _).mono ?_); rintro e w1 ⟨rfl, hb1⟩; have tb := tb.trans (hb1.mono tb.size); have c0 := laterW hb1 c0; have c1 := laterW hb1 c1)
              | (go_at_call 57; (with_reducible refine (HV.out _).mono ?_); rintro e w3 ⟨rfl, hb3⟩; have tb := tb.trans (hb3.mono tb.size)))
            go_roundg (n - (i + 1))
            case rel => exact ⟨i + 1, S ++ V, rfl, by go_num, by omega, tb, by omega, HNX⟩
            case measure => omega
          · have r1 : ((k : Int) == 1) = false := beq_eq_false_iff_ne.2 (by omega)
            have kb := ka
            try clear kb
            try clear ka
            have HNX := Lib.hid hNX
            clear hNX y1 y2
            go_wp2_with (first
              | (go_at_call 55; (with_reducible refine (HI.out _).mono ?_); rintro e w1 ⟨rfl, hb1⟩; have tb := tb.trans (hb1.mono tb.size); have c0 := laterW hb1 c0; have c1 := laterW hb1 c1)
              | (go_at_call 57; (with_reducible refine (HV.out _).mono ?_); rintro e w3 ⟨rfl, hb3⟩; have tb := tb.trans (hb3.mono tb.size)))
            go_roundg (n - (i + 1))
            case rel => exact ⟨i + 1, S ++ V, rfl, by go_num, by omega, tb, by omega, HNX⟩
            case measure => omega
        | false =>
          have hX := y2 rfl
          by_cases ka : k = 1
          · have r1 : ((k : Int) == 1) = true := beq_iff_eq.2 (by omega)
            have kb := ka
            try clear kb
            try clear ka
            have HX := Lib.hid hX
            clear hX y1 y2
            go_wp2_with (go_at_call 55; (with_reducible refine (HI.out _).mono ?_); rintro e w1 ⟨rfl, hb1⟩; have tb := tb.trans (hb1.mono tb.size))
            go_ret2
            rw [HX.out]
            exact ⟨rfl, tb⟩
          · have r1 : ((k : Int) == 1) = false := beq_eq_false_iff_ne.2 (by omega)
            have kb := ka
            try clear kb
            try clear ka
            have HX := Lib.hid hX
            clear hX y1 y2
            go_wp2_with (go_at_call 55; (with_reducible refine (HI.out _).mono ?_); rintro e w1 ⟨rfl, hb1⟩; have tb := tb.trans (hb1.mono tb.size))
            go_ret2
            rw [HX.out]
            exact ⟨rfl, tb⟩
      · have q1 : ((i : Int) % 2 == 1) = false := beq_eq_false_iff_ne.2 (by omega)
        have q2 : ((i : Int) % 2 == 0) = true := beq_iff_eq.2 (by omega)
        obtain ⟨y1, y2⟩ := s2 (by omega)
        clear s1 s2 hlm
        by_cases ka : k = 1
        · have r1 : ((k : Int) == 1) = true := beq_iff_eq.2 (by omega)
          have kb := ka
          have hNX := y1 (.inl (by first | exact kb | exact ka))
          try clear kb
          try clear ka
          have HNX := Lib.hid hNX
          clear hNX y1 y2
          go_wp2_with (first
            | (go_at_call 55; (with_reducible refine (HI.out _).mono ?_); rintro e w1 ⟨rfl, hb1⟩; have tb := tb.trans (hb1.mono tb.size); have c0 := laterW hb1 c0; have c1 := laterW hb1 c1)
            | (go_at_call 57; (with_reducible refine (HV.out _).mono ?_); rintro e w3 ⟨rfl, hb3⟩; have tb := tb.trans (hb3.mono tb.size)))
          go_roundg (n - (i + 1))
          case rel => exact ⟨i + 1, S ++ V, rfl, by go_num, by omega, tb, by omega, HNX⟩
          case measure => omega
        · have r1 : ((k : Int) == 1) = false := beq_eq_false_iff_ne.2 (by omega)
          have kb := ka
          have hX := y2 (fun hh => by rcases hh with hh | hh; exact ka hh; exact kb hh)
          try clear kb
          try clear ka
          have HX := Lib.hid hX
          clear hX y1 y2
          go_wp2_with (go_at_call 55; (with_reducible refine (HI.out _).mono ?_); rintro e w1 ⟨rfl, hb1⟩; have tb := tb.trans (hb1.mono tb.size))
          go_ret2
          rw [HX.out]
          exact ⟨rfl, tb⟩
    · obtain rfl : i = n := by omega
      obtain ⟨hX, hX2⟩ := rw_end hrel.out (by rw [HL.out]; exact hlt)
      have hS : S = ⟨(vals m).toArray⟩ := (mk_ofR hX).symm
      rw [HL.out] at hX2
      have HX := Lib.hid hX2
      have hS2 := Lib.hid hS
      clear hrel hX hX2 hS HM HT HV0
      rcases Nat.mod_two_eq_zero_or_one i with hp | hp
      · have q1 : ((i : Int) % 2 == 1) = false := beq_eq_false_iff_ne.2 (by omega)
        have q2 : Hid ((i % 2 == 1) = false) := by show _ = _; rw [hp]; rfl
        clear hp
        go_wp2
        go_ret2
        rw [HX.out]
        exact ⟨by rw [q2.out, ← hS2.out]; rfl, tb⟩
      · have q1 : ((i : Int) % 2 == 1) = true := beq_iff_eq.2 (by omega)
        have q2 : Hid ((i % 2 == 1) = true) := by show _ = _; rw [hp]; rfl
        clear hp
        go_wp2
        go_ret2
        rw [HX.out]
        exact ⟨by rw [q2.out, ← hS2.out]; rfl, tb⟩
end Go.Proofs.YtilccofdphohiaaGreatDoor
namespace Go.Proofs.YtilccofdphohiaaGreatDoor
open Go.RowKit Pk Ad Tk Fo Su

def bls (l : List ByteArray) : List (List UInt8) := l.map fun b => b.data.toList
/-- where the reading of message ids stands: p: where the id under way begins -/
def IdR (s : ByteArray) (X : List (List UInt8)) (i : Nat) (p : Option Nat) (acc : List ByteArray) : Prop :=
  match p with
  | none => bls acc ++ idsL (tl s i) = X
  | some f => f ≤ i ∧ (∀ j (h : j < s.size), f ≤ j → j < i → endI s[j] = false) ∧ bls acc ++ (idAt (tl s f) ++ idsL (tl s i)) = X
theorem tl_get (s : ByteArray) (f j : Nat) (h : j < (tl s f).length) : (tl s f)[j] = s[f + j]'(by rw [tl_length] at h; omega) := by
  have hh : j < (s.data.toList.drop f).length := h
  have : (s.data.toList.drop f)[j]'hh = s.data.toList[f + j]'(by rw [List.length_drop] at hh; omega) := List.getElem_drop ..
  exact this
theorem idAt_end {s : ByteArray} {f i : Nat} (hf : f ≤ i) (hi : i < s.size) (hall : ∀ j (h : j < s.size), f ≤ j → j < i → endI s[j] = false) (he : endI s[i] = true) :
    idAt (tl s f) = if 0 < i - f ∧ i - f ≤ 250 ∧ s[i] = 62 then [(s.extract f i).data.toList] else [] := by
  have hlen : (tl s f).length = s.size - f := tl_length s f
  have hn : (tl s f).findIdx endI = i - f := by
    rw [List.findIdx_eq (by omega)]
    refine ⟨?_, fun j hj => ?_⟩
    · rw [tl_get]
      have e : f + (i - f) = i := by omega
      simp only [e]; exact he
    · rw [tl_get]
      exact hall (f + j) (by omega) (by omega) (by omega)
  unfold idAt
  simp only
  rw [hn]
  have hg : (tl s f)[i - f]? = some s[i] := by
    rw [List.getElem?_eq_getElem (by omega), tl_get]
    have e : f + (i - f) = i := by omega
    simp only [e]
  rw [hg]
  have ht : (tl s f).take (i - f) = (s.extract f i).data.toList := by rw [ext_eq]; rfl
  rw [ht]
  by_cases hc : 0 < i - f ∧ i - f ≤ 250 ∧ s[i] = 62
  · rw [if_pos hc, if_pos ⟨hc.1, hc.2.1, by rw [hc.2.2]⟩]
  · rw [if_neg hc, if_neg (fun h => hc ⟨h.1, h.2.1, by injection h.2.2⟩)]
theorem idr_62 {s : ByteArray} {X : List (List UInt8)} {i : Nat} {p : Option Nat} {acc : List ByteArray} (h : Hid (IdR s X i p acc)) (hi : i < s.size) (hc : s[i] = 62) :
    (∀ f, p = some f → 0 < i - f → i - f ≤ 250 → Hid (IdR s X (i + 1) none (acc ++ [s.extract f i]))) ∧ ((∀ f, p = some f → ¬ (0 < i - f ∧ i - f ≤ 250)) → Hid (IdR s X (i + 1) none acc)) := by
  have e := h.out
  have hl : idsL (tl s i) = idsL (tl s (i + 1)) := by rw [tl_cons s i hi, hc]; rfl
  refine ⟨fun f hf h1 h2 => ?_, fun hno => ?_⟩
  · subst hf
    obtain ⟨e1, e2, e3⟩ := e
    rw [idAt_end e1 hi e2 (by rw [hc]; decide), if_pos ⟨h1, h2, hc⟩, hl] at e3
    show bls _ ++ _ = X
    rw [← e3]
    unfold bls
    simp
  · cases p with
    | none =>
      have e : bls acc ++ idsL (tl s i) = X := e
      rw [hl] at e; exact e
    | some f =>
      obtain ⟨e1, e2, e3⟩ := e
      rw [idAt_end e1 hi e2 (by rw [hc]; decide), if_neg (fun h => hno f rfl ⟨h.1, h.2.1⟩), hl] at e3
      exact e3
theorem idr_60 {s : ByteArray} {X : List (List UInt8)} {i : Nat} {p : Option Nat} {acc : List ByteArray} (h : Hid (IdR s X i p acc)) (hi : i < s.size) (hc : s[i] = 60) : Hid (IdR s X (i + 1) (some (i + 1)) acc) := by
  have e := h.out
  have hl : idsL (tl s i) = idAt (tl s (i + 1)) ++ idsL (tl s (i + 1)) := by
    rw [tl_cons s i hi, hc]
    show (if (60 : UInt8) = 60 then _ else _) = _
    rw [if_pos rfl]
  refine ⟨Nat.le_refl _, fun j _ h1 h2 => absurd h1 (by omega), ?_⟩
  cases p with
  | none =>
    have e : bls acc ++ idsL (tl s i) = X := e
    rw [hl] at e; exact e
  | some f =>
    obtain ⟨e1, e2, e3⟩ := e
    rw [idAt_end e1 hi e2 (by rw [hc]; decide), if_neg (fun h => by rw [hc] at h; exact absurd h.2.2 (by decide)), hl] at e3
    exact e3
theorem idr_end {s : ByteArray} {X : List (List UInt8)} {i : Nat} {p : Option Nat} {acc : List ByteArray} (h : Hid (IdR s X i p acc)) (hi : i < s.size) (he : endI s[i] = true) (h60 : s[i] ≠ 60) (h62 : s[i] ≠ 62) : Hid (IdR s X (i + 1) none acc) := by
  have e := h.out
  have hl : idsL (tl s i) = idsL (tl s (i + 1)) := by
    rw [tl_cons s i hi]
    show (if s[i] = 60 then _ else _) = _
    rw [if_neg h60]
  cases p with
  | none =>
    have e : bls acc ++ idsL (tl s i) = X := e
    rw [hl] at e; exact e
  | some f =>
    obtain ⟨e1, e2, e3⟩ := e
    rw [idAt_end e1 hi e2 he, if_neg (fun h => h62 h.2.2), hl] at e3
    exact e3
theorem idr_on {s : ByteArray} {X : List (List UInt8)} {i : Nat} {p : Option Nat} {acc : List ByteArray} (h : Hid (IdR s X i p acc)) (hi : i < s.size) (he : endI s[i] = false) : Hid (IdR s X (i + 1) p acc) := by
  have e := h.out
  have h60 : s[i] ≠ 60 := fun e => by rw [e] at he; exact absurd he (by decide)
  have hl : idsL (tl s i) = idsL (tl s (i + 1)) := by
    rw [tl_cons s i hi]
    show (if s[i] = 60 then _ else _) = _
    rw [if_neg h60]
  cases p with
  | none =>
    have e : bls acc ++ idsL (tl s i) = X := e
    rw [hl] at e; exact e
  | some f =>
    obtain ⟨e1, e2, e3⟩ := e
    rw [hl] at e3
    refine ⟨by omega, fun j hj h1 h2 => ?_, e3⟩
    by_cases hji : j = i
    · subst hji; exact he
    · exact e2 j hj h1 (by omega)
theorem idr_done {s : ByteArray} {X : List (List UInt8)} {i : Nat} {p : Option Nat} {acc : List ByteArray} (h : Hid (IdR s X i p acc)) (hi : ¬ i < s.size) : bls acc = X := by
  have e := h.out
  have hl : idsL (tl s i) = [] := by rw [tl_end s i (by omega)]; rfl
  cases p with
  | none =>
    have e : bls acc ++ idsL (tl s i) = X := e
    rw [hl, List.append_nil] at e; exact e
  | some f =>
    obtain ⟨e1, e2, e3⟩ := e
    have hn : (tl s f).findIdx endI = (tl s f).length := by
      rw [List.findIdx_eq_length]
      intro x hx
      obtain ⟨j, hj, rfl⟩ := List.getElem_of_mem hx
      rw [tl_get]
      have := tl_length s f
      rw [e2 (f + j) (by omega) (by omega) (by omega)]
    have ha : idAt (tl s f) = [] := by
      unfold idAt
      simp only
      rw [hn, if_neg (fun h => by rw [List.getElem?_eq_none (Nat.le_refl _)] at h; cases h.2.2)]
    rw [ha, hl, List.append_nil, List.append_nil] at e3
    exact e3
def fromV (p : Option Nat) : Int := match p with | none => -1 | some f => f
theorem endI_dec (c : UInt8) : endI c = (decide ((c.toNat : Int) ≤ 32) || (((c.toNat : Int) == 127) || (((c.toNat : Int) == 60) || ((c.toNat : Int) == 62)))) := by
  have h0 : ∀ n : Nat, n < 256 → endI (UInt8.ofNat n) = (decide (((UInt8.ofNat n).toNat : Int) ≤ 32) || ((((UInt8.ofNat n).toNat : Int) == 127) || ((((UInt8.ofNat n).toNat : Int) == 60) || (((UInt8.ofNat n).toNat : Int) == 62)))) := by decide +kernel
  have := h0 c.toNat c.toNat_lt
  rwa [UInt8.ofNat_toNat] at this
set_option maxHeartbeats 4000000 in
set_option maxRecDepth 100000 in
theorem rids_any (s : ByteArray) (w : World) (hs : s.size ≤ 3000000) : Calls Tryz.prog 16 #[.string s] w (StrsIs (idsB s.data.toList) w) := by
  obtain ⟨X, hX⟩ : ∃ X, X = idsL s.data.toList := ⟨_, rfl⟩
  have hst : Hid (IdR s X 0 none []) := by show bls [] ++ idsL (tl s 0) = X; rw [tl_zero, hX]; rfl
  have hXB : idsB s.data.toList = X.map fun x => ⟨x.toArray⟩ := by rw [hX]; rfl
  rw [hXB]
  clear hX hXB
  go_enter Tryz.func16, Tryz.ntmps16
  go_wp2
  go_loopg [3, 4, 5] s.size (fun g ov fv iv wr => ∃ (i : Nat) (p : Option Nat) (acc : List ByteArray), iv = .int .i64 i ∧ fv = .int .i64 (fromV p) ∧ i + g = s.size ∧ ownsS wr w.heap.size 9 ov acc ∧ Below w.heap.size w wr ∧ acc.length ≤ i ∧ (∀ f, p = some f → f ≤ i) ∧ Hid (IdR s X i p acc))
  case atStart => exact ⟨0, none, [], by first | rfl | trivial, by first | rfl | trivial, by omega, ⟨by simp, .inl ⟨rfl, rfl⟩⟩, Below.refl _ _, Nat.le_refl _, (by intro f hf; cases hf), hst⟩
  case round =>
    clear hst
    obtain ⟨i, p, acc, rfl, rfl, hig, hown, hbel, hal, hpf, hrel⟩ := hrel
    have hsz := hbel.size
    by_cases hlt : i < s.size
    · have z0 : (0 : Int) ≤ (i : Int) := by omega
      have z1 : (i : Int) < (s.size : Int) := by omega
      have hed := endI_dec s[i]
      by_cases h62 : s[i] = 62
      · have d1 : ((s[i].toNat : Int) == 62) = true := by rw [h62]; rfl
        have d2 : ((s[i].toNat : Int) == 60) = false := by rw [h62]; rfl
        have d3 : decide ((s[i].toNat : Int) ≤ 32) = false := by rw [h62]; rfl
        have d4 : ((s[i].toNat : Int) == 127) = false := by rw [h62]; rfl
        obtain ⟨s1, s2⟩ := idr_62 hrel hlt h62
        clear hed h62 hrel
        cases p with
        | none =>
          have hd := s2 (fun f hf => by cases hf)
          have fv : fromV none = -1 := rfl
          rw [fv]
          clear s1 s2 hpf
          go_wp2
          go_roundg (s.size - (i + 1))
          case rel => exact ⟨i + 1, none, acc, by go_num, rfl, by omega, hown, hbel, by omega, (by intro f hf; cases hf), hd⟩
          case measure => omega
        | some f =>
          have hfi := hpf f rfl
          have fv : fromV (some f) = (f : Int) := rfl
          rw [fv]
          have r0 : (0 : Int) ≤ (f : Int) := by omega
          have r0' : decide ((f : Int) ≥ 0) = true := decide_eq_true (by omega)
          have r3 : IntKind.i64.wrap ((i : Int) - (f : Int)) = (i : Int) - (f : Int) := by rw [IntKind.wrap_i64]; omega
          have r4 : wrap64 ((i : Int) - (f : Int)) = (i : Int) - (f : Int) := by unfold wrap64; omega
          by_cases h1 : f < i
          · have r1 : decide ((i : Int) > (f : Int)) = true := decide_eq_true (by omega)
            have r1' : decide ((f : Int) < (i : Int)) = true := decide_eq_true (by omega)
            by_cases h2 : i - f ≤ 250
            · have r2 : decide ((i : Int) - (f : Int) ≤ 250) = true := decide_eq_true (by omega)
              have hd := s1 f rfl (by omega) h2
              have r5 : (f : Int) ≤ (i : Int) := by omega
              have r6 : (i : Int) ≤ (s.size : Int) := by omega
              clear s1 s2 hpf
              go_wp2_with (at_builtin; refine append_str _ rfl (.tmp 31) (.tmp 36) ssA rfl w.heap.size _ _ rfl (ownsS.alloc hown _) ⟨_, 0, none⟩ 1 1 [_] rfl rfl (cells_new _ _ _) (by first | omega | (simp; done) | (simp; omega)) (by first | omega | (simp; done) | (simp; omega)) ?_; intro v6 w6 hown6 hg6; have hb6 := Below_grownS (Below.alloc hbel hsz _) (ownsS.alloc hown _) hg6 (by first | omega | (simp; done) | (simp; omega)); clear hg6)
              go_roundg (s.size - (i + 1))
              case rel => exact ⟨i + 1, none, _, by go_num, rfl, by omega, hown6, hb6, by rw [List.length_append, List.length_singleton]; omega, (by intro f hf; cases hf), hd⟩
              case measure => omega
            · have r2 : decide ((i : Int) - (f : Int) ≤ 250) = false := decide_eq_false (by omega)
              have hd := s2 (fun f' hf h => by injection hf with hf; omega)
              clear s1 s2 hpf
              go_wp2
              go_roundg (s.size - (i + 1))
              case rel => exact ⟨i + 1, none, acc, by go_num, rfl, by omega, hown, hbel, by omega, (by intro f hf; cases hf), hd⟩
              case measure => omega
          · have r1 : decide ((i : Int) > (f : Int)) = false := decide_eq_false (by omega)
            have r1' : decide ((f : Int) < (i : Int)) = false := decide_eq_false (by omega)
            have hd := s2 (fun f' hf h => by injection hf with hf; omega)
            clear s1 s2 hpf
            go_wp2
            go_roundg (s.size - (i + 1))
            case rel => exact ⟨i + 1, none, acc, by go_num, rfl, by omega, hown, hbel, by omega, (by intro f hf; cases hf), hd⟩
            case measure => omega
      · have d1 : ((s[i].toNat : Int) == 62) = false := beq_eq_false_iff_ne.2 (fun e => h62 (UInt8.toNat_inj.1 (by show _ = 62; omega)))
        by_cases h60 : s[i] = 60
        · have d2 : ((s[i].toNat : Int) == 60) = true := by rw [h60]; rfl
          have hd := idr_60 hrel hlt h60
          clear hed h62 h60 hrel hpf
          go_wp2
          go_roundg (s.size - (i + 1))
          case rel => exact ⟨i + 1, some (i + 1), acc, by go_num, by first | rfl | (show _ = Value.int .i64 ((i + 1 : Nat) : Int); go_num), by omega, hown, hbel, by omega, (by intro f hf; injection hf with hf; omega), hd⟩
          case measure => omega
        · have d2 : ((s[i].toNat : Int) == 60) = false := beq_eq_false_iff_ne.2 (fun e => h60 (UInt8.toNat_inj.1 (by show _ = 60; omega)))
          rw [d1, d2] at hed
          have hE1 := fun he => idr_end hrel hlt he h60 h62
          have hE2 := fun he => idr_on hrel hlt he
          generalize endI s[i] = eb at *
          clear h62 h60 hrel
          cases d3 : decide ((s[i].toNat : Int) ≤ 32) with
          | true =>
            rw [d3] at hed
            have hd := hE1 hed
            clear hE1 hE2 hed hpf
            go_wp2
            go_roundg (s.size - (i + 1))
            case rel => exact ⟨i + 1, none, acc, by go_num, rfl, by omega, hown, hbel, by omega, (by intro f hf; cases hf), hd⟩
            case measure => omega
          | false =>
            cases d4 : ((s[i].toNat : Int) == 127) with
            | true =>
              rw [d3, d4] at hed
              have hd := hE1 hed
              clear hE1 hE2 hed hpf
              go_wp2
              go_roundg (s.size - (i + 1))
              case rel => exact ⟨i + 1, none, acc, by go_num, rfl, by omega, hown, hbel, by omega, (by intro f hf; cases hf), hd⟩
              case measure => omega
            | false =>
              rw [d3, d4] at hed
              have hd := hE2 hed
              clear hE1 hE2 hed
              have HPF := Lib.hid hpf
              clear hpf
              go_wp2
              go_roundg (s.size - (i + 1))
              case rel => exact ⟨i + 1, p, acc, by go_num, rfl, by omega, hown, hbel, by omega, (by intro f hf; have := HPF.out f hf; omega), hd⟩
              case measure => omega
    · have hfin := idr_done hrel hlt
      have hacc : acc = X.map fun x => (⟨x.toArray⟩ : ByteArray) := by
        rw [← hfin]
        unfold bls
        rw [List.map_map]
        have : ((fun x : List UInt8 => (⟨x.toArray⟩ : ByteArray)) ∘ fun b : ByteArray => b.data.toList) = id := funext fun x => mk_of rfl
        rw [this, List.map_id]
      have hpost : Hid (StrsIs (X.map fun x => ⟨x.toArray⟩) w (.returned u3) wr) := ⟨_, rfl, by rw [← hacc]; exact hown, hbel⟩
      clear hrel hfin hacc hown hpf
      go_wp2
      go_ret
      exact hpost.out
end Go.Proofs.YtilccofdphohiaaGreatDoor
namespace Go.Proofs.YtilccofdphohiaaGreatDoor
open Go.RowKit Pk Ad Tk Fo Su

theorem ixT_is {b : UInt8} {m : List El} {i : Nat} (hi : i < m.length) (h : ∀ j (hj : j < m.length), j < i → isT b m[j] = false) (ht : isT b m[i] = true) : ixT b m = i := by
  unfold ixT
  rw [List.findIdx_eq hi]
  exact ⟨ht, fun j hj => h j (by omega) hj⟩
theorem ixT_none {b : UInt8} {m : List El} (h : ∀ j (hj : j < m.length), isT b m[j] = false) : ixT b m = m.length := ix_none (fun x hx => by
  obtain ⟨j, hj, rfl⟩ := List.getElem_of_mem hx
  exact h j hj)
theorem noT_step {b : UInt8} {m : List El} {i : Nat} (h : Hid (∀ j (hj : j < m.length), j < i → isT b m[j] = false)) (hi : i < m.length) (ht : isT b m[i] = false) : Hid (∀ j (hj : j < m.length), j < i + 1 → isT b m[j] = false) := fun j hj h1 => by
  by_cases e : j = i
  · subst e; exact ht
  · exact h.out j hj (by omega)
theorem specP_no {m : List El} (h : ixT 64 m = m.length) : specP m = (nilA, false) := by
  unfold specP
  rw [if_neg (by omega)]
theorem specP_at {m : List El} {i : Nat} (hi : i < m.length) (h : ixT 64 m = i) : specP m = (⟨[], (rowP 1 2 (m.take i)).1, (domP (m.drop (i + 1))).1⟩, (rowP 1 2 (m.take i)).2 && (domP (m.drop (i + 1))).2) := by
  unfold specP
  rw [h, if_pos hi]
/-- a text without blanks, so far -/
def BrAt (T : ByteArray) (k : Nat) (D : ByteArray) : Prop := D.data.toList ++ bareS (tl T k) = bareS T.data.toList
theorem br_zero (T : ByteArray) : BrAt T 0 ⟨#[]⟩ := by unfold BrAt; rw [tl_zero]; rfl
theorem br_step {T D : ByteArray} {k : Nat} (h : Hid (BrAt T k D)) (hk : k < T.size) : (blankA T[k] = true → Hid (BrAt T (k + 1) D)) ∧ (blankA T[k] = false → Hid (BrAt T (k + 1) (D ++ T.extract k (k + 1)))) := by
  have e := h.out
  unfold BrAt bareS at e
  rw [tl_cons T k hk, List.filter_cons] at e
  refine ⟨fun h1 => ?_, fun h1 => ?_⟩
  · rw [h1] at e; exact e
  · rw [h1] at e
    have he : (T.extract k (k + 1)).data.toList = [T[k]] := by
      rw [ext_eq]
      show (tl T k).take (k + 1 - k) = _
      rw [tl_cons T k hk, show k + 1 - k = 1 by omega]; rfl
    show _ ++ _ = _
    rw [ByteArray.data_append, Array.toList_append, he]
    unfold bareS
    rw [← e]
    simp
theorem br_end {T D : ByteArray} {k : Nat} (h : Hid (BrAt T k D)) (hk : ¬ k < T.size) : D = ⟨(bareS T.data.toList).toArray⟩ := by
  have e := h.out
  unfold BrAt at e
  rw [tl_end T k (by omega)] at e
  have e2 : D.data.toList = bareS T.data.toList := by rw [← e]; exact (List.append_nil _).symm
  exact (mk_ofR e2).symm
theorem br_size {T D : ByteArray} {k : Nat} (h : Hid (BrAt T k D)) : D.size ≤ T.size := by
  have e := congrArg List.length h.out
  rw [List.length_append] at e
  have h2 : (bareS T.data.toList).length ≤ T.data.toList.length := List.length_filter_le _ _
  have h3 : D.data.toList.length = D.size := rfl
  have h4 : T.data.toList.length = T.size := rfl
  omega
theorem blk_dec (c : UInt8) : blankA c = (((c.toNat : Int) == 9) || (((c.toNat : Int) == 10) || (((c.toNat : Int) == 13) || ((c.toNat : Int) == 32)))) := by
  have h0 : ∀ n : Nat, n < 256 → blankA (UInt8.ofNat n) = ((((UInt8.ofNat n).toNat : Int) == 9) || ((((UInt8.ofNat n).toNat : Int) == 10) || ((((UInt8.ofNat n).toNat : Int) == 13) || (((UInt8.ofNat n).toNat : Int) == 32)))) := by decide +kernel
  have := h0 c.toNat c.toNat_lt
  rwa [UInt8.ofNat_toNat] at this
set_option maxHeartbeats 4000000 in
set_option maxRecDepth 100000 in
theorem rspecA_any (p : Option Addr) (n c : Nat) (m : List El) (w : World) (h : TSl w p n c m) (hn : n ≤ 10000000) (hv : (vals m).length ≤ 10000000) (hT : ∀ t ∈ m, t.text.size ≤ 1000000) : Calls Tryz.prog 56 #[.slice p n c] w (PairA (specP m) w) := by
  obtain ⟨hl, hc, hm⟩ := h
  have tb : Below w.heap.size w (w.alloc zA) := (Below.refl _ _).alloc (Nat.le_refl _) _
  have kk : (w.alloc zA).heap[w.heap.size]? = some (.cells #[.string ⟨#[]⟩, .string ⟨#[]⟩, .string ⟨#[]⟩] 34 (0, 0)) := heap_alloc_new w _
  have hst : Hid (∀ j (hj : j < m.length), j < 0 → isT 64 m[j] = false) := fun j hj h => absurd h (Nat.not_lt_zero j)
  have HM := Lib.hid hm
  have HL := Lib.hid hl
  have HT := Lib.hid hT
  have HV := Lib.hid hv
  clear hm hT hl hv
  go_enter Tryz.func56, Tryz.ntmps56
  go_wp2
  go_loopg [4] n (fun g iv wr => ∃ i : Nat, iv = .int .i64 i ∧ i + g = n ∧ Below w.heap.size w wr ∧ Hid (wr.heap[w.heap.size]? = some (.cells #[.string ⟨#[]⟩, .string ⟨#[]⟩, .string ⟨#[]⟩] 34 (0, 0))) ∧ Hid (∀ j (hj : j < m.length), j < i → isT 64 m[j] = false))
  case atStart => exact ⟨0, by first | rfl | trivial, by omega, tb, kk, hst⟩
  case round =>
    clear hst tb kk
    obtain ⟨i, rfl, hig, tb, hkk, hrel⟩ := hrel
    have kk := hkk.out
    have z0 : (0 : Int) ≤ (i : Int) := by omega
    by_cases hlt : i < n
    · have hlm : i < m.length := by rw [HL.out]; exact hlt
      obtain ⟨g, o, rfl, hcells⟩ : ∃ g o, p = some ⟨g, o, none⟩ ∧ tokAt w g o m := by
        rcases HM.out with h | h
        · rw [h] at hlm; simp at hlm
        · exact h
      obtain ⟨c0, c1⟩ := hcells i hlm
      have c0 := cell_later tb c0
      have c1 := cell_later tb c1
      have z1 : (i : Int) < (n : Int) := by omega
      have HI := Lib.hid (fun w => ris_any 64 m[i].kind m[i].text w)
      have hgo := fun ht => noT_step hrel hlm ht
      have hat := fun ht => ixT_is hlm hrel.out ht
      have hti : isT 64 m[i] = isT 64 ⟨m[i].kind, m[i].text⟩ := rfl
      rw [hti] at hgo hat
      generalize m[i].kind = k at *
      generalize m[i].text = T at *
      generalize isT 64 ⟨k, T⟩ = tt at *
      clear hti hrel hkk
      cases tt with
      | false =>
        have hd := hgo rfl
        clear hgo hat
        go_wp2_with (first
          | (go_at_call 55; (with_reducible refine (HI.out _).mono ?_); rintro e w1 ⟨rfl, hb1⟩; have tb := tb.trans (hb1.mono tb.size); have kk := blkKept hb1 kk; have y0 := Lib.cell_of_heap kk 0; have f0 := fun j => frozen_of (j := j) kk; have y1 := Lib.cell_of_heap kk 1; have y2 := Lib.cell_of_heap kk 2)
          | (go_at_call 84; (first | (with_reducible refine (HR1.out _ tb).mono ?_) | (with_reducible refine (HR2.out _ tb _ _ (.inr ⟨rfl, rfl⟩)).mono ?_) | (with_reducible refine (HR2.out _ tb _ 0 (.inl ⟨by omega, rfl⟩)).mono ?_)); rintro e w2 ⟨rfl, hb2⟩; have tb := tb.trans (hb2.mono tb.size); have kk := blkKept hb2 kk; have y0 := Lib.cell_of_heap kk 0; have f0 := fun j => frozen_of (j := j) kk; have y1 := Lib.cell_of_heap kk 1; have y2 := Lib.cell_of_heap kk 2; have c0 := HC0.out _ tb; have c1 := HC1.out _ tb)
          )
        go_roundg (n - (i + 1))
        case rel => exact ⟨i + 1, by go_num, by omega, tb, kk, hd⟩
        case measure => omega
      | true =>
        have hix := hat rfl
        have hsp := specP_at hlm hix
        have e1 : ((i : Int) == (n : Int)) = false := beq_eq_false_iff_ne.2 (by omega)
        have hR1 := fun w' (hb : Below w.heap.size w w') => rdots12_any (some ⟨g, o, none⟩) i c (m.take i) w' (TSl.sub (by omega) ((hcells.later hb).take i) (by rw [List.length_take]; omega)) (by omega) (by have := vals_take m i; have := HV.out; omega) (fun t ht => by have := HT.out t (List.mem_of_mem_take ht); omega)
        have hR2 := fun w' (hb : Below w.heap.size w w') q c' hq => rdots11_any q (n - (i + 1)) c' (m.drop (i + 1)) w' (TSl.rest HL.out hc hcells hb hq) (by omega) (by have := vals_drop m (i + 1); have := HV.out; omega) (fun t ht => by have := HT.out t (List.mem_of_mem_drop ht); omega)
        clear hgo hat hix
        have hlD : (m.drop (i + 1)).length = n - (i + 1) := by rw [List.length_drop, HL.out]
        generalize rowP 1 2 (m.take i) = P1 at *
        obtain ⟨l1, b1⟩ := P1
        by_cases h1 : n - (i + 1) = 1
        · have q1 : (((i : Int) + 2) == (n : Int)) = true := beq_iff_eq.2 (by omega)
          have hcc := hcells.drop (i + 1)
          have hTD : ∀ t ∈ m.drop (i + 1), t.text.size ≤ 1000000 := fun t ht => HT.out t (List.mem_of_mem_drop ht)
          generalize m.drop (i + 1) = D at *
          have HTD := Lib.hid hTD
          obtain ⟨t, rfl⟩ : ∃ t, D = [t] := List.length_eq_one_iff.1 (hlD.trans h1)
          have HTt : Hid (t.text.size ≤ 1000000) := HTD.out t (List.mem_singleton.2 rfl)
          clear HTD hTD
          obtain ⟨d0, d1⟩ := hcc 0 (Nat.one_pos)
          rw [Nat.zero_mul, Nat.add_zero] at d0 d1
          have d0 : w.cell? ⟨g, o + (i + 1) * 2, none⟩ = some (.int .i64 t.kind) := d0
          have d1 : w.cell? ⟨g, o + (i + 1) * 2 + 1, none⟩ = some (.string t.text) := d1
          have HC0 : Hid (∀ w', Below w.heap.size w w' → w'.cell? ⟨g, o + (i + 1) * 2, none⟩ = some (.int .i64 t.kind)) := fun w' hb => laterW hb d0
          have HC1 : Hid (∀ w', Below w.heap.size w w' → w'.cell? ⟨g, o + (i + 1) * 2 + 1, none⟩ = some (.string t.text)) := fun w' hb => laterW hb d1
          have HR1 := Lib.hid hR1
          have HR2 := Lib.hid hR2
          have hd1 : domP [t] = if t.kind = 5 then (bareS t.text.data.toList, true) else rowP 1 1 [t] := rfl
          rw [hd1] at hsp
          rw [h1] at HR2
          have hn1 : i + 1 < n := by omega
          have hc1 : ¬ c = i + 1 := by omega
          have i1 : (0 : Int) ≤ (i : Int) + 1 := by omega
          have i2 : (i : Int) + 1 < (n : Int) := by omega
          have i3 : ((i : Int) + 1).toNat = i + 1 := by omega
          clear hR1 hR2 hcells hlD hd1 hcc d0 d1
          generalize rowP 1 1 [t] = P2 at *
          obtain ⟨l2, b2⟩ := P2
          generalize hTx : t.text = Tx at *
          generalize t.kind = kx at *
          by_cases h5 : kx = 5
          · have q5 : ((kx : Int) == 5) = true := beq_iff_eq.2 (by omega)
            rw [if_pos h5] at hsp
            have HSP := Lib.hid hsp
            have hbr := Lib.hid (br_zero Tx)
            clear hsp h5 hTx
            go_wp2_with (first
              | (go_at_call 55; (with_reducible refine (HI.out _).mono ?_); rintro e w1 ⟨rfl, hb1⟩; have tb := tb.trans (hb1.mono tb.size); have kk := blkKept hb1 kk; have y0 := Lib.cell_of_heap kk 0; have f0 := fun j => frozen_of (j := j) kk; have y1 := Lib.cell_of_heap kk 1; have y2 := Lib.cell_of_heap kk 2)
              | (go_at_call 84; (first | (with_reducible refine (HR1.out _ tb).mono ?_) | (with_reducible refine (HR2.out _ tb _ _ (.inr ⟨rfl, rfl⟩)).mono ?_) | (with_reducible refine (HR2.out _ tb _ 0 (.inl ⟨by omega, rfl⟩)).mono ?_)); rintro e w2 ⟨rfl, hb2⟩; have tb := tb.trans (hb2.mono tb.size); have kk := blkKept hb2 kk; have y0 := Lib.cell_of_heap kk 0; have f0 := fun j => frozen_of (j := j) kk; have y1 := Lib.cell_of_heap kk 1; have y2 := Lib.cell_of_heap kk 2; have c0 := HC0.out _ tb; have c1 := HC1.out _ tb)
              )
            have kk := Lib.hid kk
            clear y0 y1 y2 f0
            go_loopg [7, 10] Tx.size (fun g dv iv wy => ∃ (j : Nat) (D : ByteArray), dv = .string D ∧ iv = .int .i64 j ∧ j + g = Tx.size ∧ Below w.heap.size w wy ∧ Hid (wy.heap[w.heap.size]? = some (.cells #[.string ⟨#[]⟩, .string ⟨#[]⟩, .string ⟨#[]⟩] 34 (0, 0))) ∧ Hid (BrAt Tx j D))
            case atStart => exact ⟨0, ⟨#[]⟩, by first | rfl | trivial, by first | rfl | trivial, by omega, tb, kk, hbr⟩
            case round =>
              clear hbr tb kk
              obtain ⟨j, D, rfl, rfl, hjg, tb, kk, hrel⟩ := hrel
              have hDz := br_size hrel
              have hTz := HTt.out
              by_cases hjt : j < Tx.size
              · obtain ⟨s1, s2⟩ := br_step hrel hjt
                have hbd := blk_dec Tx[j]
                have j0 : (0 : Int) ≤ (j : Int) := by omega
                have j1 : (j : Int) < (Tx.size : Int) := by omega
                have j2 : (j : Int) ≤ (j : Int) + 1 := by omega
                have j3 : (j : Int) + 1 ≤ (Tx.size : Int) := by omega
                have j4 : ((j : Int) + 1).toNat = j + 1 := by omega
                have hsz1 : (Tx.extract j (j + 1)).size = 1 := by rw [ByteArray.size_extract]; omega
                have HSP := HSP
                generalize blankA Tx[j] = bb at *
                clear hrel
                cases d9 : ((Tx[j].toNat : Int) == 9) with
                | true =>
                  have e9 : ((Tx[j].toNat : Int) != 9) = false := by rw [bne, d9]; rfl
                  rw [d9] at hbd
                  have hd := s1 hbd
                  have HS1 := Lib.hid s1
                  have HS2 := Lib.hid s2
                  clear s1 s2 hbd
                  go_wp2
                  go_roundg (Tx.size - (j + 1))
                  case rel => exact ⟨j + 1, D, by first | rfl | trivial | go_num, by go_num, by omega, tb, kk, hd⟩
                  case measure => omega
                | false =>
                  have e9 : ((Tx[j].toNat : Int) != 9) = true := by rw [bne, d9]; rfl
                  cases d10 : ((Tx[j].toNat : Int) == 10) with
                  | true =>
                    have e10 : ((Tx[j].toNat : Int) != 10) = false := by rw [bne, d10]; rfl
                    rw [d9, d10] at hbd
                    have hd := s1 hbd
                    have HS1 := Lib.hid s1
                    have HS2 := Lib.hid s2
                    clear s1 s2 hbd
                    go_wp2
                    go_roundg (Tx.size - (j + 1))
                    case rel => exact ⟨j + 1, D, by first | rfl | trivial | go_num, by go_num, by omega, tb, kk, hd⟩
                    case measure => omega
                  | false =>
                    have e10 : ((Tx[j].toNat : Int) != 10) = true := by rw [bne, d10]; rfl
                    cases d13 : ((Tx[j].toNat : Int) == 13) with
                    | true =>
                      have e13 : ((Tx[j].toNat : Int) != 13) = false := by rw [bne, d13]; rfl
                      rw [d9, d10, d13] at hbd
                      have hd := s1 hbd
                      have HS1 := Lib.hid s1
                      have HS2 := Lib.hid s2
                      clear s1 s2 hbd
                      go_wp2
                      go_roundg (Tx.size - (j + 1))
                      case rel => exact ⟨j + 1, D, by first | rfl | trivial | go_num, by go_num, by omega, tb, kk, hd⟩
                      case measure => omega
                    | false =>
                      have e13 : ((Tx[j].toNat : Int) != 13) = true := by rw [bne, d13]; rfl
                      cases d32 : ((Tx[j].toNat : Int) == 32) with
                      | true =>
                        have e32 : ((Tx[j].toNat : Int) != 32) = false := by rw [bne, d32]; rfl
                        rw [d9, d10, d13, d32] at hbd
                        have hd := s1 hbd
                        have HS1 := Lib.hid s1
                        have HS2 := Lib.hid s2
                        clear s1 s2 hbd
                        go_wp2
                        go_roundg (Tx.size - (j + 1))
                        case rel => exact ⟨j + 1, D, by first | rfl | trivial | go_num, by go_num, by omega, tb, kk, hd⟩
                        case measure => omega
                      | false =>
                        have e32 : ((Tx[j].toNat : Int) != 32) = true := by rw [bne, d32]; rfl
                        rw [d9, d10, d13, d32] at hbd
                        have hd := s2 hbd
                        have HS1 := Lib.hid s1
                        have HS2 := Lib.hid s2
                        clear s1 s2 hbd
                        go_wp2
                        go_roundg (Tx.size - (j + 1))
                        case rel => exact ⟨j + 1, (D++Tx.extract j (j+1)), by first | rfl | trivial | go_num, by go_num, by omega, tb, kk, hd⟩
                        case measure => omega
              · have hD := br_end hrel hjt
                have HD := Lib.hid hD
                have kk := kk.out
                have y0 := Lib.cell_of_heap kk 0
                have f0 := fun j => frozen_of (j := j) kk
                have y1 := Lib.cell_of_heap kk 1
                have y2 := Lib.cell_of_heap kk 2
                clear hrel hD hDz
                cases b1 with
                | false =>
                  go_wp2
                  refine bodyPost_ret (v := .tuple #[.agg #[.string ⟨#[]⟩, .string ⟨l1.toArray⟩, .string D], .bool false]) (by simp [results, Tryz.results56, go_sem, *]) rfl ?_
                  exact ⟨by rw [HSP.out, HD.out]; rfl, ((tb.setCell (Nat.le_refl _) _).setCell (Nat.le_refl _) _).setCell (Nat.le_refl _) _⟩
                | true =>
                  go_wp2
                  refine bodyPost_ret (v := .tuple #[.agg #[.string ⟨#[]⟩, .string ⟨l1.toArray⟩, .string D], .bool true]) (by simp [results, Tryz.results56, go_sem, *]) rfl ?_
                  exact ⟨by rw [HSP.out, HD.out]; rfl, ((tb.setCell (Nat.le_refl _) _).setCell (Nat.le_refl _) _).setCell (Nat.le_refl _) _⟩
          · have q5 : ((kx : Int) == 5) = false := beq_eq_false_iff_ne.2 (by omega)
            rw [if_neg h5] at hsp
            have HSP := Lib.hid hsp
            clear hsp h5 hTx
            cases b1 with
            | false =>
              go_wp2_with (first
                | (go_at_call 55; (with_reducible refine (HI.out _).mono ?_); rintro e w1 ⟨rfl, hb1⟩; have tb := tb.trans (hb1.mono tb.size); have kk := blkKept hb1 kk; have y0 := Lib.cell_of_heap kk 0; have f0 := fun j => frozen_of (j := j) kk; have y1 := Lib.cell_of_heap kk 1; have y2 := Lib.cell_of_heap kk 2)
                | (go_at_call 84; (first | (with_reducible refine (HR1.out _ tb).mono ?_) | (with_reducible refine (HR2.out _ tb _ _ (.inr ⟨rfl, rfl⟩)).mono ?_) | (with_reducible refine (HR2.out _ tb _ 0 (.inl ⟨by omega, rfl⟩)).mono ?_)); rintro e w2 ⟨rfl, hb2⟩; have tb := tb.trans (hb2.mono tb.size); have kk := blkKept hb2 kk; have y0 := Lib.cell_of_heap kk 0; have f0 := fun j => frozen_of (j := j) kk; have y1 := Lib.cell_of_heap kk 1; have y2 := Lib.cell_of_heap kk 2; have c0 := HC0.out _ tb; have c1 := HC1.out _ tb)
                )
              refine bodyPost_ret (v := .tuple #[.agg #[.string ⟨#[]⟩, .string ⟨l1.toArray⟩, .string ⟨l2.toArray⟩], .bool false]) (by simp [results, Tryz.results56, go_sem, *]) rfl ?_
              exact ⟨by rw [HSP.out]; rfl, ((tb.setCell (Nat.le_refl _) _).setCell (Nat.le_refl _) _).setCell (Nat.le_refl _) _⟩
            | true =>
              go_wp2_with (first
                | (go_at_call 55; (with_reducible refine (HI.out _).mono ?_); rintro e w1 ⟨rfl, hb1⟩; have tb := tb.trans (hb1.mono tb.size); have kk := blkKept hb1 kk; have y0 := Lib.cell_of_heap kk 0; have f0 := fun j => frozen_of (j := j) kk; have y1 := Lib.cell_of_heap kk 1; have y2 := Lib.cell_of_heap kk 2)
                | (go_at_call 84; (first | (with_reducible refine (HR1.out _ tb).mono ?_) | (with_reducible refine (HR2.out _ tb _ _ (.inr ⟨rfl, rfl⟩)).mono ?_) | (with_reducible refine (HR2.out _ tb _ 0 (.inl ⟨by omega, rfl⟩)).mono ?_)); rintro e w2 ⟨rfl, hb2⟩; have tb := tb.trans (hb2.mono tb.size); have kk := blkKept hb2 kk; have y0 := Lib.cell_of_heap kk 0; have f0 := fun j => frozen_of (j := j) kk; have y1 := Lib.cell_of_heap kk 1; have y2 := Lib.cell_of_heap kk 2; have c0 := HC0.out _ tb; have c1 := HC1.out _ tb)
                )
              refine bodyPost_ret (v := .tuple #[.agg #[.string ⟨#[]⟩, .string ⟨l1.toArray⟩, .string ⟨l2.toArray⟩], .bool b2]) (by simp [results, Tryz.results56, go_sem, *]) rfl ?_
              exact ⟨by rw [HSP.out]; rfl, ((tb.setCell (Nat.le_refl _) _).setCell (Nat.le_refl _) _).setCell (Nat.le_refl _) _⟩
        · have q1 : (((i : Int) + 2) == (n : Int)) = false := beq_eq_false_iff_ne.2 (by omega)
          have hd1 := domP_many (by rw [hlD]; exact h1)
          rw [hd1] at hsp
          have i1 : (0 : Int) ≤ (i : Int) + 1 := by omega
          have i3 : ((i : Int) + 1).toNat = i + 1 := by omega
          have HC0 : Hid (∀ w', Below w.heap.size w w' → True) := fun _ _ => trivial
          have HC1 := HC0
          have HR1 := Lib.hid hR1
          have HR2 := Lib.hid hR2
          clear hR1 hR2 hcells hlD hd1
          generalize rowP 1 1 (m.drop (i + 1)) = P2 at *
          obtain ⟨l2, b2⟩ := P2
          have HSP := Lib.hid hsp
          clear hsp
          cases b1 with
          | false =>
            go_wp2_with (first
              | (go_at_call 55; (with_reducible refine (HI.out _).mono ?_); rintro e w1 ⟨rfl, hb1⟩; have tb := tb.trans (hb1.mono tb.size); have kk := blkKept hb1 kk; have y0 := Lib.cell_of_heap kk 0; have f0 := fun j => frozen_of (j := j) kk; have y1 := Lib.cell_of_heap kk 1; have y2 := Lib.cell_of_heap kk 2)
              | (go_at_call 84; (first | (with_reducible refine (HR1.out _ tb).mono ?_) | (with_reducible refine (HR2.out _ tb _ _ (.inr ⟨rfl, rfl⟩)).mono ?_) | (with_reducible refine (HR2.out _ tb _ 0 (.inl ⟨by omega, rfl⟩)).mono ?_)); rintro e w2 ⟨rfl, hb2⟩; have tb := tb.trans (hb2.mono tb.size); have kk := blkKept hb2 kk; have y0 := Lib.cell_of_heap kk 0; have f0 := fun j => frozen_of (j := j) kk; have y1 := Lib.cell_of_heap kk 1; have y2 := Lib.cell_of_heap kk 2; have c0 := HC0.out _ tb; have c1 := HC1.out _ tb)
              )
            all_goals (
              refine bodyPost_ret (v := .tuple #[.agg #[.string ⟨#[]⟩, .string ⟨l1.toArray⟩, .string ⟨l2.toArray⟩], .bool false]) (by simp [results, Tryz.results56, go_sem, *]) rfl ?_
              exact ⟨by rw [HSP.out]; rfl, ((tb.setCell (Nat.le_refl _) _).setCell (Nat.le_refl _) _).setCell (Nat.le_refl _) _⟩
              )
          | true =>
            go_wp2_with (first
              | (go_at_call 55; (with_reducible refine (HI.out _).mono ?_); rintro e w1 ⟨rfl, hb1⟩; have tb := tb.trans (hb1.mono tb.size); have kk := blkKept hb1 kk; have y0 := Lib.cell_of_heap kk 0; have f0 := fun j => frozen_of (j := j) kk; have y1 := Lib.cell_of_heap kk 1; have y2 := Lib.cell_of_heap kk 2)
              | (go_at_call 84; (first | (with_reducible refine (HR1.out _ tb).mono ?_) | (with_reducible refine (HR2.out _ tb _ _ (.inr ⟨rfl, rfl⟩)).mono ?_) | (with_reducible refine (HR2.out _ tb _ 0 (.inl ⟨by omega, rfl⟩)).mono ?_)); rintro e w2 ⟨rfl, hb2⟩; have tb := tb.trans (hb2.mono tb.size); have kk := blkKept hb2 kk; have y0 := Lib.cell_of_heap kk 0; have f0 := fun j => frozen_of (j := j) kk; have y1 := Lib.cell_of_heap kk 1; have y2 := Lib.cell_of_heap kk 2; have c0 := HC0.out _ tb; have c1 := HC1.out _ tb)
              )
            all_goals (
              refine bodyPost_ret (v := .tuple #[.agg #[.string ⟨#[]⟩, .string ⟨l1.toArray⟩, .string ⟨l2.toArray⟩], .bool b2]) (by simp [results, Tryz.results56, go_sem, *]) rfl ?_
              exact ⟨by rw [HSP.out]; rfl, ((tb.setCell (Nat.le_refl _) _).setCell (Nat.le_refl _) _).setCell (Nat.le_refl _) _⟩
              )
    · obtain rfl : i = n := by omega
      have hix : ixT 64 m = m.length := ixT_none (fun j hj => hrel.out j hj (by rw [HL.out] at hj; exact hj))
      have HSP := Lib.hid (specP_no hix)
      have e1 : ((i : Int) == (i : Int)) = true := beq_iff_eq.2 rfl
      have y0 := Lib.cell_of_heap kk 0
      have f0 := fun j => frozen_of (j := j) kk
      have y1 := Lib.cell_of_heap kk 1
      have y2 := Lib.cell_of_heap kk 2
      clear hix hrel hkk
      go_wp2
      refine bodyPost_ret (v := .tuple #[.agg #[.string ⟨#[]⟩, .string ⟨#[]⟩, .string ⟨#[]⟩], .bool false]) (by simp [results, Tryz.results56, go_sem, *]) rfl ?_
      refine ⟨by rw [HSP.out]; rfl, ?_⟩
      exact ((tb.setCell (Nat.le_refl _) _).setCell (Nat.le_refl _) _).setCell (Nat.le_refl _) _
end Go.Proofs.YtilccofdphohiaaGreatDoor
namespace Go.Proofs.YtilccofdphohiaaGreatDoor
open Go.RowKit Pk Ad Tk Fo Su

def At60 (m : List El) (i : Nat) : Prop := ∃ h : i < m.length, isT 60 m[i] = true
def ShAt (m : List El) (i a : Nat) : Prop := ∀ j (hj : j < m.length), i ≤ j → j < a → isT 62 m[j] = false
theorem sh_start (m : List El) (i : Nat) : Hid (ShAt m i i) := fun j _ h1 h2 => absurd h1 (by omega)
theorem sh_step {m : List El} {i a : Nat} (h : Hid (ShAt m i a)) (ha : a < m.length) (ht : isT 62 m[a] = false) : Hid (ShAt m i (a + 1)) := fun j hj h1 h2 => by
  by_cases e : j = a
  · subst e; exact ht
  · exact h.out j hj h1 (by omega)
theorem two_kinds {x y : UInt8} {t : El} (h : isT x t = true) (hxy : x ≠ y) : isT y t = false := by
  unfold isT at h ⊢
  rw [Bool.and_eq_true, beq_iff_eq] at h
  cases hh : (t.kind == 4 && t.text.data.toList == [y]) with
  | false => rfl
  | true =>
    rw [Bool.and_eq_true, beq_iff_eq, beq_iff_eq] at hh
    have := eq_of_beq h.2
    rw [hh.2] at this
    injection this with h1
    exact absurd h1.symm hxy
theorem sh_ix {m : List El} {i a : Nat} (h : Hid (ShAt m i a)) (hi : i < a) (ha : a < m.length) (ht : isT 62 m[a] = true) : ixT 62 (m.drop (i + 1)) = a - (i + 1) := by
  have hl : (m.drop (i + 1)).length = m.length - (i + 1) := List.length_drop
  refine (List.findIdx_eq (by omega)).2 ⟨?_, fun j hj => ?_⟩
  · rw [List.getElem_drop]
    have e : i + 1 + (a - (i + 1)) = a := by omega
    simp only [e]; exact ht
  · rw [List.getElem_drop]
    exact h.out _ _ (by omega) (by omega)
theorem sh_no {m : List El} {i : Nat} (h : Hid (ShAt m i m.length)) : ixT 62 (m.drop (i + 1)) = (m.drop (i + 1)).length := List.findIdx_eq_length.2 fun x hx => by
  obtain ⟨j, hj, rfl⟩ := List.getElem_of_mem hx
  rw [List.length_drop] at hj
  rw [List.getElem_drop]
  exact h.out _ _ (by omega) (by omega)
theorem oneP_bad1 {m : List El} {i : Nat} (hi : i < m.length) (hx : ixT 60 m = i) (h : namP (m.take i) = ([], false)) : oneP m = (nilA, false) := by
  rw [oneP_yes (by omega), hx, h, if_neg (fun h => by cases h.1)]
theorem oneP_bad2 {m : List El} {i a : Nat} (hi : i < m.length) (hx : ixT 60 m = i) (h : Hid (ShAt m i a)) (hia : i ≤ a) (ham : a ≤ m.length) (hA : ∀ h : a < m.length, isT 62 m[a] = true) (h60 : Hid (At60 m i)) (hne : a + 1 ≠ m.length) : oneP m = (nilA, false) := by
  obtain ⟨h6, h60⟩ := h60.out
  have hl : (m.drop (i + 1)).length = m.length - (i + 1) := List.length_drop
  rw [oneP_yes (by omega), hx, if_neg]
  rintro ⟨-, h2⟩
  by_cases hlt : a < m.length
  · have hai : i ≠ a := fun e => by
      subst e
      rw [two_kinds (hA hlt) (by decide)] at h60; cases h60
    rw [sh_ix h (by omega) hlt (hA hlt)] at h2
    omega
  · obtain rfl : a = m.length := by omega
    rw [sh_no h] at h2
    omega
theorem oneP_good {m : List El} {i a : Nat} {nl : List UInt8} (hi : i < m.length) (hx : ixT 60 m = i) (hn : namP (m.take i) = (nl, true)) (h : Hid (ShAt m i a)) (hia : i ≤ a) (ha : a < m.length) (hA : isT 62 m[a] = true) (h60 : Hid (At60 m i)) (he : a + 1 = m.length) :
    i < a ∧ oneP m = (⟨nl, (specP (routeL ((m.take a).drop (i + 1)))).1.loc, (specP (routeL ((m.take a).drop (i + 1)))).1.dom⟩, (specP (routeL ((m.take a).drop (i + 1)))).2) := by
  obtain ⟨h6, h60⟩ := h60.out
  have hl : (m.drop (i + 1)).length = m.length - (i + 1) := List.length_drop
  have hai : i ≠ a := fun e => by
    subst e
    rw [two_kinds hA (by decide)] at h60; cases h60
  have hs := sh_ix h (by omega) ha hA
  refine ⟨by omega, ?_⟩
  rw [oneP_yes (by omega), hx, hs, hn, if_pos ⟨rfl, by omega⟩, List.drop_take]
theorem rt_none {m : List El} {i a : Nat} (ha : a < m.length) (hia : i < a) (h : isT 64 (m[i + 1]'(by omega)) = false) : routeL ((m.take a).drop (i + 1)) = (m.take a).drop (i + 1) := by
  apply route_no
  intro t r e
  have h0 : 0 < ((m.take a).drop (i + 1)).length := by rw [e]; simp
  have hg : ((m.take a).drop (i + 1))[0] = t := by simp only [e]; rfl
  rw [List.getElem_drop, List.getElem_take] at hg
  rw [← hg]
  exact h
theorem ne_64 {m : List El} {j a : Nat} (ha : a < m.length) (ht : isT 62 m[a] = true) (hja : j < a) (h : isT 64 (m[j + 1]'(by omega)) = true) : j + 1 < a := by
  by_cases e : j + 1 = a
  · subst e
    rw [two_kinds h (by decide)] at ht; cases ht
  · omega
/-- what the walk back over the route has found: f is where the address begins -/
def RtAt (m : List El) (i a k f : Nat) : Prop := (f = i + 1 ∧ ∀ j (hj : j < m.length), k < j → j < a → isT 58 m[j] = false) ∨ (∃ c, ∃ hc : c < m.length, k < c ∧ c < a ∧ f = c + 1 ∧ isT 58 m[c] = true ∧ ∀ j (hj : j < m.length), k < j → j < c → isT 58 m[j] = false)
theorem rt_start (m : List El) (i a : Nat) : Hid (RtAt m i a (a - 1) (i + 1)) := .inl ⟨rfl, fun j _ h1 h2 => absurd h1 (by omega)⟩
theorem rt_hit {m : List El} {i a k : Nat} (hk : k < m.length) (hka : k < a) (hki : i < k) (ht : isT 58 m[k] = true) : Hid (RtAt m i a (k - 1) (k + 1)) := .inr ⟨k, hk, by omega, hka, rfl, ht, fun j _ h1 h2 => absurd h1 (by omega)⟩
theorem rt_miss {m : List El} {i a k f : Nat} (h : Hid (RtAt m i a k f)) (hk : k < m.length) (ht : isT 58 m[k] = false) : Hid (RtAt m i a (k - 1) f) := by
  have hstep : ∀ b, (∀ j (hj : j < m.length), k < j → j < b → isT 58 m[j] = false) → ∀ j (hj : j < m.length), k - 1 < j → j < b → isT 58 m[j] = false := fun b h j hj h1 h2 => by
    by_cases e : j = k
    · subst e; exact ht
    · exact h j hj (by omega) h2
  rcases h.out with ⟨h1, h2⟩ | ⟨c, hc, h1, h2, h3, h4, h5⟩
  · exact .inl ⟨h1, hstep _ h2⟩
  · exact .inr ⟨c, hc, by omega, h2, h3, h4, hstep _ h5⟩
theorem rt_le {m : List El} {i a k f : Nat} (h : Hid (RtAt m i a k f)) (hia : i < a) (hk : i ≤ k) : i + 1 ≤ f ∧ f ≤ a := by
  rcases h.out with ⟨h1, h2⟩ | ⟨c, hc, h1, h2, h3, h4, h5⟩ <;> omega
theorem rt_end {m : List El} {i a f : Nat} (h : Hid (RtAt m i a i f)) (hia : i + 1 < a) (ha : a < m.length) (h64 : isT 64 (m[i + 1]'(by omega)) = true) : routeL ((m.take a).drop (i + 1)) = (m.take a).drop f := by
  have hl : ((m.take a).drop (i + 1)).length = a - (i + 1) := by rw [List.length_drop, List.length_take]; omega
  have hget : ∀ x (hx : x < ((m.take a).drop (i + 1)).length), ((m.take a).drop (i + 1))[x] = m[i + 1 + x]'(by omega) := fun x hx => by
    rw [List.getElem_drop, List.getElem_take]
  obtain ⟨t, r, hE⟩ : ∃ t r, (m.take a).drop (i + 1) = t :: r := by
    cases hh : (m.take a).drop (i + 1) with
    | nil => rw [hh] at hl; simp at hl; omega
    | cons t r => exact ⟨t, r, rfl⟩
  have ht : isT 64 t = true := by
    have hg := hget 0 (by omega)
    simp only [hE] at hg
    have hg : t = m[i + 1]'(by omega) := hg
    rw [hg]; exact h64
  rcases h.out with ⟨h1, h2⟩ | ⟨c, hc, h1, h2, h3, h4, h5⟩
  · have hix : ixT 58 ((m.take a).drop (i + 1)) = ((m.take a).drop (i + 1)).length := List.findIdx_eq_length.2 fun x hx => by
      obtain ⟨j, hj, rfl⟩ := List.getElem_of_mem hx
      rw [hget]
      exact h2 _ _ (by omega) (by omega)
    rw [h1]
    rw [hE] at hl hix ⊢
    rw [route_yes ht, if_neg (by omega)]
  · have hix : ixT 58 ((m.take a).drop (i + 1)) = c - (i + 1) := by
      refine (List.findIdx_eq (by omega)).2 ⟨?_, fun j hj => ?_⟩
      · rw [hget]
        have e : i + 1 + (c - (i + 1)) = c := by omega
        simp only [e]; exact h4
      · rw [hget]
        exact h5 _ _ (by omega) (by omega)
    have hd : (m.take a).drop f = ((m.take a).drop (i + 1)).drop (c - (i + 1) + 1) := by
      rw [List.drop_drop]
      congr 1
      omega
    rw [hd]
    rw [hE] at hl hix ⊢
    rw [route_yes ht, hix, if_pos (by omega)]
theorem int_of {x y : Int} (h : x = y) : Value.int .i64 x = Value.int .i64 y := by rw [h]
abbrev bO (w : World) (B : Nat) : Prop := w.heap[B]? = some (.cells #[.string ⟨#[]⟩, .string ⟨#[]⟩, .string ⟨#[]⟩] 34 (0, 0))
set_option maxHeartbeats 4000000 in
set_option maxRecDepth 100000 in
theorem rone_any (p : Option Addr) (n c : Nat) (m : List El) (w : World) (h : TSl w p n c m) (hn : n ≤ 10000000) (hv : (vals m).length ≤ 10000000) (hT : ∀ t ∈ m, t.text.size ≤ 1000000) : Calls Tryz.prog 30 #[.slice p n c] w (PairA (oneP m) w) := by
  have hS0 := fun w' (hb : Below w.heap.size w w') => rspecA_any p n c m w' (h.later hb) hn hv hT
  obtain ⟨hl, hc, hm⟩ := h
  have tb : Below w.heap.size w (w.alloc zA) := (Below.refl _ _).alloc (Nat.le_refl _) _
  have kk : Hid (bO (w.alloc zA) w.heap.size) := heap_alloc_new w _
  have hst : Hid (∀ j (hj : j < m.length), j < 0 → isT 60 m[j] = false) := fun j hj h => absurd h (Nat.not_lt_zero j)
  have HM := Lib.hid hm
  have HL := Lib.hid hl
  have HT := Lib.hid hT
  have HV0 := Lib.hid hv
  have HS0 := Lib.hid hS0
  clear hm hT hl hv hS0
  go_enter Tryz.func30, Tryz.ntmps30
  go_wp2
  go_loopg [4] n (fun g iv wr => ∃ i : Nat, iv = .int .i64 i ∧ i + g = n ∧ Below w.heap.size w wr ∧ Hid (bO wr w.heap.size) ∧ Hid (∀ j (hj : j < m.length), j < i → isT 60 m[j] = false))
  case atStart => exact ⟨0, by first | rfl | trivial, by omega, tb, kk, hst⟩
  case round =>
    clear hst tb kk
    obtain ⟨i, rfl, hig, tb, hkk, hrel⟩ := hrel
    have kk := hkk.out
    have z0 : (0 : Int) ≤ (i : Int) := by omega
    by_cases hlt : i < n
    · have hlm : i < m.length := by rw [HL.out]; exact hlt
      obtain ⟨g, o, rfl, hcells⟩ : ∃ g o, p = some ⟨g, o, none⟩ ∧ tokAt w g o m := by
        rcases HM.out with h | h
        · rw [h] at hlm; simp at hlm
        · exact h
      obtain ⟨c0, c1⟩ := hcells i hlm
      have c0 := cell_later tb c0
      have c1 := cell_later tb c1
      have z1 : (i : Int) < (n : Int) := by omega
      have HI := Lib.hid (fun w => ris_any 60 m[i].kind m[i].text w)
      have hgo := fun ht => noT_step hrel hlm ht
      have hat := fun ht => ixT_is hlm hrel.out ht
      have h60 : isT 60 m[i] = true → Hid (At60 m i) := fun ht => ⟨hlm, ht⟩
      have hti : isT 60 m[i] = isT 60 ⟨m[i].kind, m[i].text⟩ := rfl
      rw [hti] at hgo hat h60
      generalize m[i].kind = k at *
      generalize m[i].text = T at *
      generalize isT 60 ⟨k, T⟩ = tt at *
      have HCE := Lib.hid hcells
      clear hti hrel hkk hcells
      cases tt with
      | false =>
        have hd := hgo rfl
        have kk : bO wr w.heap.size := kk
        clear hgo hat h60
        go_wp2_with (first
          | (go_at_call 55; (with_reducible refine (HI.out _).mono ?_); rintro e w1 ⟨rfl, hb1⟩; have tb := tb.trans (hb1.mono tb.size); have kk := blkKept hb1 kk; have c0 := laterW hb1 c0; have c1 := laterW hb1 c1; have y0 := Lib.cell_of_heap kk 0; have f0 := fun j => frozen_of (j := j) kk; have y1 := Lib.cell_of_heap kk 1; have y2 := Lib.cell_of_heap kk 2)
          )
        go_roundg (n - (i + 1))
        case rel => exact ⟨i + 1, by go_num, by omega, tb, kk, hd⟩
        case measure => omega
      | true =>
        have hix := hat rfl
        have hAT := h60 rfl
        clear h60
        have e1 : ((i : Int) == (n : Int)) = false := beq_eq_false_iff_ne.2 (by omega)
        have HIX := Lib.hid hix
        have hcT : Hid (tokAt w g o (m.take i)) := HCE.out.take i
        have hmtl : (m.take i).length = i := by rw [List.length_take]; omega
        have hTT : Hid (∀ t ∈ m.take i, t.text.size ≤ 1000000) := fun t ht => HT.out t (List.mem_of_mem_take ht)
        have hNL : (namL true (m.take i)).length ≤ 20000000 := by have := namL_le (m.take i) true; have := vals_take m i; have := List.length_take_le i m; have := HV0.out; omega
        have hbad1 := Lib.hid (fun hh => oneP_bad1 hlm hix hh)
        have hnz : Hid (NmAt (m.take i) 0 (⟨#[]⟩ : ByteArray).data.toList) := nm_start _
        clear hgo hat hix
        go_wp2_with (first
          | (go_at_call 55; (with_reducible refine (HI.out _).mono ?_); rintro e w1 ⟨rfl, hb1⟩; have tb := tb.trans (hb1.mono tb.size); have kk := blkKept hb1 kk; have c0 := laterW hb1 c0; have c1 := laterW hb1 c1; have y0 := Lib.cell_of_heap kk 0; have f0 := fun j => frozen_of (j := j) kk; have y1 := Lib.cell_of_heap kk 1; have y2 := Lib.cell_of_heap kk 2)
          )
        have kk : Hid (bO w1 w.heap.size) := kk
        clear c0 c1 y0 y1 y2 f0 HI
        generalize hmt : m.take i = mt at *
        go_loopg [5, 6, 7] i (fun g sv jv wv wy => ∃ (j : Nat) (S : ByteArray), sv = .string S ∧ jv = .int .i64 j ∧ j + g = i ∧ Below w.heap.size w wy ∧ Hid (bO wy w.heap.size) ∧ Hid (NmAt mt j S.data.toList))
        case atStart => exact ⟨0, ⟨#[]⟩, by first | rfl | trivial, by first | rfl | trivial, by omega, tb, kk, hnz⟩
        case round =>
          clear hnz tb kk
          obtain ⟨j, S, rfl, rfl, hjg, tb, hkk, hrel⟩ := hrel
          have kk := hkk.out
          by_cases hj : j < i
          · have hjm : j < mt.length := by rw [hmtl]; exact hj
            obtain ⟨c0, c1⟩ := hcT.out j hjm
            have c0 := cell_later tb c0
            have c1 := cell_later tb c1
            obtain ⟨s1, s2⟩ := nm_step hrel.out hjm
            have hln := nm_len hrel.out hjm
            have hTi := hTT.out _ (List.getElem_mem hjm)
            have hV := fun w => rvalue_any (mt[j].kind : Int) mt[j].text w (by omega)
            rw [valI_E] at hV
            obtain ⟨V, hV1, hV2, hV3⟩ := arrE (valE mt[j])
            unfold StrIs at hV
            rw [← hV1] at hV
            have hSV : (S ++ V : ByteArray).data.toList = S.data.toList ++ valE mt[j] := by rw [ByteArray.data_append, Array.toList_append, hV2]
            have hSV2 : (S ++ ⟨#[32]⟩ ++ V : ByteArray).data.toList = S.data.toList ++ [32] ++ valE mt[j] := by rw [ByteArray.data_append, ByteArray.data_append, Array.toList_append, Array.toList_append, hV2]
            have hz1 : S.size + V.size ≤ 20000000 := by rw [dataL] at hln; omega
            have hz2 : (S ++ V : ByteArray).size = S.size + V.size := ByteArray.size_append
            have hz3 : (S ++ ⟨#[32]⟩ : ByteArray).size = S.size + 1 := ByteArray.size_append
            have hz4 : (S ++ ⟨#[32]⟩ ++ V : ByteArray).size = S.size + 1 + V.size := by rw [ByteArray.size_append, hz3]
            rw [← hSV, ← hSV2] at s1
            have hkd : isT 46 mt[j] = true → mt[j].kind = 4 := isT_kind
            have HV := Lib.hid hV
            have HI := Lib.hid (fun w => ris_any 46 mt[j].kind mt[j].text w)
            have hT46 : isT 46 mt[j] = isT 46 ⟨mt[j].kind, mt[j].text⟩ := rfl
            rw [hT46] at s1 s2 hkd
            have j0 : (0 : Int) ≤ (j : Int) := by omega
            have j1 : (j : Int) < (n : Int) := by omega
            have hjn : j < n := by omega
            have HS2 : (¬ (mt[j].kind = 1 ∨ mt[j].kind = 2 ∨ isT 46 ⟨mt[j].kind, mt[j].text⟩ = true)) → Hid (oneP m = (nilA, false)) := fun hh => hbad1.out (s2 hh)
            replace s1 : (mt[j].kind = 1 ∨ mt[j].kind = 2 ∨ isT 46 ⟨mt[j].kind, mt[j].text⟩ = true) → (j = 0 ∨ isT 46 ⟨mt[j].kind, mt[j].text⟩ = true → Hid (NmAt mt (j + 1) (S ++ V : ByteArray).data.toList)) ∧ (j ≠ 0 → isT 46 ⟨mt[j].kind, mt[j].text⟩ = false → Hid (NmAt mt (j + 1) (S ++ ⟨#[32]⟩ ++ V : ByteArray).data.toList)) := s1
            clear s2 hrel hkk hTi hln hV hV1 hV2 hV3 hT46 hSV hSV2 hbad1
            generalize mt[j].kind = k2 at *
            generalize mt[j].text = T2 at *
            generalize isT 46 ⟨k2, T2⟩ = tt at *
            clear hjm
            cases tt with
            | true =>
              have hk4 := hkd rfl
              have r1 : ((k2 : Int) != 1) = true := by rw [bne, beq_eq_false_iff_ne.2 (by omega)]; rfl
              have r2 : ((k2 : Int) != 2) = true := by rw [bne, beq_eq_false_iff_ne.2 (by omega)]; rfl
              have HNX := (s1 (.inr (.inr rfl))).1 (.inr rfl)
              clear s1 HS2 hkd hk4
              by_cases h0 : j = 0
              · have q3 : decide ((j : Int) > 0) = false := decide_eq_false (by omega)
                have q4 : decide ((0 : Int) < (j : Int)) = false := decide_eq_false (by omega)
                have q5 : decide (0 < j) = false := decide_eq_false (by omega)
                clear h0
                go_wp2_with (first
                  | (go_at_call 55; (with_reducible refine (HI.out _).mono ?_); rintro e w1 ⟨rfl, hb1⟩; have tb := tb.trans (hb1.mono tb.size); have kk := blkKept hb1 kk; have c0 := laterW hb1 c0; have c1 := laterW hb1 c1; have y0 := Lib.cell_of_heap kk 0; have f0 := fun j => frozen_of (j := j) kk; have y1 := Lib.cell_of_heap kk 1; have y2 := Lib.cell_of_heap kk 2)
                  | (go_at_call 57; (with_reducible refine (HV.out _).mono ?_); rintro e w3 ⟨rfl, hb3⟩; have tb := tb.trans (hb3.mono tb.size); have kk := blkKept hb3 kk))
                go_roundg (i - (j + 1))
                case rel => exact ⟨j + 1, _, by first | rfl | trivial, by go_num, by omega, tb, kk, HNX⟩
                case measure => omega
              · have q3 : decide ((j : Int) > 0) = true := decide_eq_true (by omega)
                have q4 : decide ((0 : Int) < (j : Int)) = true := decide_eq_true (by omega)
                have q5 : decide (0 < j) = true := decide_eq_true (by omega)
                clear h0
                go_wp2_with (first
                  | (go_at_call 55; (with_reducible refine (HI.out _).mono ?_); rintro e w1 ⟨rfl, hb1⟩; have tb := tb.trans (hb1.mono tb.size); have kk := blkKept hb1 kk; have c0 := laterW hb1 c0; have c1 := laterW hb1 c1; have y0 := Lib.cell_of_heap kk 0; have f0 := fun j => frozen_of (j := j) kk; have y1 := Lib.cell_of_heap kk 1; have y2 := Lib.cell_of_heap kk 2)
                  | (go_at_call 57; (with_reducible refine (HV.out _).mono ?_); rintro e w3 ⟨rfl, hb3⟩; have tb := tb.trans (hb3.mono tb.size); have kk := blkKept hb3 kk))
                go_roundg (i - (j + 1))
                case rel => exact ⟨j + 1, _, by first | rfl | trivial, by go_num, by omega, tb, kk, HNX⟩
                case measure => omega
            | false =>
              by_cases ka : k2 = 1
              · have r1 : ((k2 : Int) != 1) = false := by rw [bne, beq_iff_eq.2 (by omega)]; rfl
                have s1h := s1 (.inl ka)
                clear s1 HS2 hkd ka
                by_cases h0 : j = 0
                · have q3 : decide ((j : Int) > 0) = false := decide_eq_false (by omega)
                  have q4 : decide ((0 : Int) < (j : Int)) = false := decide_eq_false (by omega)
                  have q5 : decide (0 < j) = false := decide_eq_false (by omega)
                  have HNX := s1h.1 (.inl h0)
                  clear s1h h0
                  go_wp2_with (first
                    | (go_at_call 55; (with_reducible refine (HI.out _).mono ?_); rintro e w1 ⟨rfl, hb1⟩; have tb := tb.trans (hb1.mono tb.size); have kk := blkKept hb1 kk; have c0 := laterW hb1 c0; have c1 := laterW hb1 c1; have y0 := Lib.cell_of_heap kk 0; have f0 := fun j => frozen_of (j := j) kk; have y1 := Lib.cell_of_heap kk 1; have y2 := Lib.cell_of_heap kk 2)
                    | (go_at_call 57; (with_reducible refine (HV.out _).mono ?_); rintro e w3 ⟨rfl, hb3⟩; have tb := tb.trans (hb3.mono tb.size); have kk := blkKept hb3 kk))
                  go_roundg (i - (j + 1))
                  case rel => exact ⟨j + 1, _, by first | rfl | trivial, by go_num, by omega, tb, kk, HNX⟩
                  case measure => omega
                · have q3 : decide ((j : Int) > 0) = true := decide_eq_true (by omega)
                  have q4 : decide ((0 : Int) < (j : Int)) = true := decide_eq_true (by omega)
                  have q5 : decide (0 < j) = true := decide_eq_true (by omega)
                  have HNX := s1h.2 h0 rfl
                  clear s1h h0
                  go_wp2_with (first
                    | (go_at_call 55; (with_reducible refine (HI.out _).mono ?_); rintro e w1 ⟨rfl, hb1⟩; have tb := tb.trans (hb1.mono tb.size); have kk := blkKept hb1 kk; have c0 := laterW hb1 c0; have c1 := laterW hb1 c1; have y0 := Lib.cell_of_heap kk 0; have f0 := fun j => frozen_of (j := j) kk; have y1 := Lib.cell_of_heap kk 1; have y2 := Lib.cell_of_heap kk 2)
                    | (go_at_call 57; (with_reducible refine (HV.out _).mono ?_); rintro e w3 ⟨rfl, hb3⟩; have tb := tb.trans (hb3.mono tb.size); have kk := blkKept hb3 kk))
                  go_roundg (i - (j + 1))
                  case rel => exact ⟨j + 1, _, by first | rfl | trivial, by go_num, by omega, tb, kk, HNX⟩
                  case measure => omega
              · have r1 : ((k2 : Int) != 1) = true := by rw [bne, beq_eq_false_iff_ne.2 (by omega)]; rfl
                by_cases kb : k2 = 2
                · have r2 : ((k2 : Int) != 2) = false := by rw [bne, beq_iff_eq.2 (by omega)]; rfl
                  have s1h := s1 (.inr (.inl kb))
                  clear s1 HS2 hkd ka kb
                  by_cases h0 : j = 0
                  · have q3 : decide ((j : Int) > 0) = false := decide_eq_false (by omega)
                    have q4 : decide ((0 : Int) < (j : Int)) = false := decide_eq_false (by omega)
                    have q5 : decide (0 < j) = false := decide_eq_false (by omega)
                    have HNX := s1h.1 (.inl h0)
                    clear s1h h0
                    go_wp2_with (first
                      | (go_at_call 55; (with_reducible refine (HI.out _).mono ?_); rintro e w1 ⟨rfl, hb1⟩; have tb := tb.trans (hb1.mono tb.size); have kk := blkKept hb1 kk; have c0 := laterW hb1 c0; have c1 := laterW hb1 c1; have y0 := Lib.cell_of_heap kk 0; have f0 := fun j => frozen_of (j := j) kk; have y1 := Lib.cell_of_heap kk 1; have y2 := Lib.cell_of_heap kk 2)
                      | (go_at_call 57; (with_reducible refine (HV.out _).mono ?_); rintro e w3 ⟨rfl, hb3⟩; have tb := tb.trans (hb3.mono tb.size); have kk := blkKept hb3 kk))
                    go_roundg (i - (j + 1))
                    case rel => exact ⟨j + 1, _, by first | rfl | trivial, by go_num, by omega, tb, kk, HNX⟩
                    case measure => omega
                  · have q3 : decide ((j : Int) > 0) = true := decide_eq_true (by omega)
                    have q4 : decide ((0 : Int) < (j : Int)) = true := decide_eq_true (by omega)
                    have q5 : decide (0 < j) = true := decide_eq_true (by omega)
                    have HNX := s1h.2 h0 rfl
                    clear s1h h0
                    go_wp2_with (first
                      | (go_at_call 55; (with_reducible refine (HI.out _).mono ?_); rintro e w1 ⟨rfl, hb1⟩; have tb := tb.trans (hb1.mono tb.size); have kk := blkKept hb1 kk; have c0 := laterW hb1 c0; have c1 := laterW hb1 c1; have y0 := Lib.cell_of_heap kk 0; have f0 := fun j => frozen_of (j := j) kk; have y1 := Lib.cell_of_heap kk 1; have y2 := Lib.cell_of_heap kk 2)
                      | (go_at_call 57; (with_reducible refine (HV.out _).mono ?_); rintro e w3 ⟨rfl, hb3⟩; have tb := tb.trans (hb3.mono tb.size); have kk := blkKept hb3 kk))
                    go_roundg (i - (j + 1))
                    case rel => exact ⟨j + 1, _, by first | rfl | trivial, by go_num, by omega, tb, kk, HNX⟩
                    case measure => omega
                · have r2 : ((k2 : Int) != 2) = true := by rw [bne, beq_eq_false_iff_ne.2 (by omega)]; rfl
                  have HX := HS2 (fun hh => by
                    rcases hh with hh | hh | hh
                    · exact ka hh
                    · exact kb hh
                    · cases hh)
                  clear s1 HS2 hkd ka kb
                  go_wp2_with (first
                    | (go_at_call 55; (with_reducible refine (HI.out _).mono ?_); rintro e w1 ⟨rfl, hb1⟩; have tb := tb.trans (hb1.mono tb.size); have kk := blkKept hb1 kk; have c0 := laterW hb1 c0; have c1 := laterW hb1 c1; have y0 := Lib.cell_of_heap kk 0; have f0 := fun j => frozen_of (j := j) kk; have y1 := Lib.cell_of_heap kk 1; have y2 := Lib.cell_of_heap kk 2)
                    )
                  refine bodyPost_ret (v := .tuple #[.agg #[.string ⟨#[]⟩, .string ⟨#[]⟩, .string ⟨#[]⟩], .bool false]) (by simp [results, Tryz.results30, go_sem, *]) rfl ?_
                  exact ⟨by rw [HX.out]; rfl, ((tb.setCell (Nat.le_refl _) _).setCell (Nat.le_refl _) _).setCell (Nat.le_refl _) _⟩
          · obtain ⟨hX, hX2⟩ := nm_end hrel.out (by rw [hmtl]; exact hj)
            have hS : S = ⟨(namL true mt).toArray⟩ := (mk_ofR hX).symm
            have HNP := Lib.hid hX2
            have HSe := Lib.hid hS
            obtain rfl : j = i := by omega
            have hsh := sh_start m j
            clear hX hX2 hS hrel hbad1 hkk hNL
            subst hmt
            go_wp2
            have kk : Hid (bO wr w.heap.size) := kk
            have hlj : j < m.length := hlm
            clear hcT hmtl hTT
            generalize namL true (m.take j) = nl at *
            have HCE := HCE
            go_loopg [8] (n - j) (fun g av wy => ∃ a : Nat, av = .int .i64 a ∧ j ≤ a ∧ a + g = n ∧ Below w.heap.size w wy ∧ Hid (bO wy w.heap.size) ∧ Hid (ShAt m j a))
            case atStart => exact ⟨j, by first | rfl | trivial, Nat.le_refl _, by omega, tb, kk, hsh⟩
            case round =>
              clear hsh tb kk
              obtain ⟨a, rfl, hja, hag, tb, hkk, hrel⟩ := hrel
              have kk := hkk.out
              have a0 : (0 : Int) ≤ (a : Int) := by omega
              have hw : IntKind.i64.wrap ((n : Int) - 1) = (n : Int) - 1 := by rw [IntKind.wrap_i64]; omega
              have hw2 : wrap64 ((n : Int) - 1) = (n : Int) - 1 := by unfold wrap64; omega
              by_cases hlt2 : a < n
              · have ham : a < m.length := by rw [HL.out]; exact hlt2
                obtain ⟨c0, c1⟩ := HCE.out a ham
                have c0 := cell_later tb c0
                have c1 := cell_later tb c1
                have a1 : (a : Int) < (n : Int) := by omega
                have HI := Lib.hid (fun w => ris_any 62 m[a].kind m[a].text w)
                have hgo := fun ht => sh_step hrel ham ht
                have hbad := fun (ht : isT 62 m[a] = true) hne => oneP_bad2 hlj HIX.out hrel hja (Nat.le_of_lt ham) (fun _ => ht) hAT hne
                have hgood := fun (ht : isT 62 m[a] = true) he => oneP_good hlj HIX.out HNP.out hrel hja ham ht hAT he
                have h6x : isT 62 m[a] = isT 62 ⟨m[a].kind, m[a].text⟩ := rfl
                have hax0 : isT 62 m[a] = true → ∀ hja : j < a, isT 64 (m[j + 1]'(by omega)) = true → j + 1 < a := fun ht hja h => ne_64 ham ht hja h
                rw [h6x] at hgo hbad hgood hax0
                generalize m[a].kind = k3 at *
                generalize m[a].text = T3 at *
                generalize isT 62 ⟨k3, T3⟩ = tt at *
                clear h6x hrel hkk
                cases tt with
                | false =>
                  have hd := hgo rfl
                  clear hgo hbad hgood hax0
                  go_wp2_with (first
                    | (go_at_call 55; (with_reducible refine (HI.out _).mono ?_); rintro e w1 ⟨rfl, hb1⟩; have tb := tb.trans (hb1.mono tb.size); have kk := blkKept hb1 kk; have c0 := laterW hb1 c0; have c1 := laterW hb1 c1; have y0 := Lib.cell_of_heap kk 0; have f0 := fun j => frozen_of (j := j) kk; have y1 := Lib.cell_of_heap kk 1; have y2 := Lib.cell_of_heap kk 2)
                    )
                  go_roundg (n - (a + 1))
                  case rel => exact ⟨a + 1, by go_num, by omega, by omega, tb, kk, hd⟩
                  case measure => omega
                | true =>
                  have hbad := hbad rfl
                  have hgood := hgood rfl
                  rw [HL.out] at hbad hgood
                  by_cases he : a + 1 = n
                  · have q2 : ((a : Int) != (n : Int) - 1) = false := by rw [bne_eq_false_iff_eq]; omega
                    obtain ⟨hia, hgd⟩ := hgood he
                    clear hgood
                    have hlx : j + 1 < m.length := by omega
                    obtain ⟨d0, d1⟩ := HCE.out (j + 1) hlx
                    have d0 := cell_later tb d0
                    have d1 := cell_later tb d1
                    have HJ := Lib.hid (fun w => ris_any 64 m[j + 1].kind m[j + 1].text w)
                    have hrn := rt_none ham hia
                    have hre := fun f (hf : Hid (RtAt m j a j f)) (hx : j + 1 < a) (hh : isT 64 m[j + 1] = true) => rt_end hf hx ham hh
                    have h6y : isT 64 m[j + 1] = isT 64 ⟨m[j + 1].kind, m[j + 1].text⟩ := rfl
                    have hax := hax0 rfl hia
                    rw [h6y] at hrn hre hax
                    generalize m[j + 1].kind = k4 at *
                    generalize m[j + 1].text = T4 at *
                    generalize isT 64 ⟨k4, T4⟩ = tt at *
                    have i1 : (0 : Int) ≤ (j : Int) + 1 := by omega
                    have i2 : (j : Int) + 1 < (n : Int) := by omega
                    have i3 : ((j : Int) + 1).toNat = j + 1 := by omega
                    clear hgo hbad h6y hax0
                    cases tt with
                    | false =>
                      rw [hrn rfl] at hgd
                      have hfa : j + 1 ≤ a := hia
                      clear hrn hre hax
                      have hS := fun w' (hb : Below w.heap.size w w') => rspecA_any (some ⟨g, o + (j+1) * 2, none⟩) (a - (j+1)) (c - (j+1)) ((m.take a).drop (j+1)) w' (TSl.mid HL.out hc hfa (Nat.le_of_lt hlt2) (HCE.out.later hb) (.inr ⟨rfl, rfl⟩)) (by omega) (by have := vals_drop (m.take a) (j+1); have := vals_take m a; have := HV0.out; omega) (fun t ht => HT.out t (List.mem_of_mem_take (List.mem_of_mem_drop ht)))
                      generalize specP ((m.take a).drop (j+1)) = P at *
                      obtain ⟨⟨l1, l2, l3⟩, b⟩ := P
                      have HX : Hid (oneP m = (⟨nl, l2, l3⟩, b)) := hgd
                      have HS := Lib.hid hS
                      clear hS hgd
                      have uf1 : ((j+1 : Nat) : Int) ≤ (a : Int) := by omega
                      have uf2 : (a : Int) ≤ (n : Int) := by omega
                      have uf3 : (a : Int) ≤ (c : Int) := by omega
                      have uf4 : ¬ c = j+1 := by omega
                      go_wp2_with (first
                        | (go_at_call 55; (first | (with_reducible refine (HI.out _).mono ?_) | (with_reducible refine (HJ.out _).mono ?_)); rintro e w1 ⟨rfl, hb1⟩; have tb := tb.trans (hb1.mono tb.size); have kk := blkKept hb1 kk; have c0 := laterW hb1 c0; have c1 := laterW hb1 c1; have d0 := laterW hb1 d0; have d1 := laterW hb1 d1)
                        | (go_at_call 56; (with_reducible refine (HS.out _ tb).mono ?_); rintro e w5 ⟨rfl, hb5⟩; have kk := blkKept hb5 kk; have tb := tb.trans (hb5.mono tb.size); have hw5 := lt_of_block kk; have y0 := Lib.cell_of_heap kk 0; have f0 := fun j => frozen_of (j := j) kk; have y1 := Lib.cell_of_heap kk 1; have y2 := Lib.cell_of_heap kk 2; have kk2 : (w5.alloc (.cells #[.string S, .string ⟨l2.toArray⟩, .string ⟨l3.toArray⟩] 34)).heap[w.heap.size]? = some (.cells #[.string ⟨#[]⟩, .string ⟨#[]⟩, .string ⟨#[]⟩] 34 (0, 0)) := blkKept ((Below.refl w5.heap.size w5).alloc (Nat.le_refl _) _) kk; have hne : ¬ w.heap.size = w5.heap.size := Nat.ne_of_lt hw5; have hne2 : ¬ w5.heap.size = w.heap.size := Nat.ne_of_gt hw5; have e0 := Lib.cell_of_heap kk2 0; have e1 := Lib.cell_of_heap kk2 1; have e2 := Lib.cell_of_heap kk2 2; have fr := fun j => frozen_of (j := j) kk2; obtain ⟨⟨d1, d2⟩, ⟨d3, d4⟩⟩ := after_st (x := .string S) (y := .string ⟨l2.toArray⟩) (.cells #[.string S, .string ⟨l2.toArray⟩, .string ⟨l3.toArray⟩] 34) kk)
                        )
                      all_goals refine bodyPost_ret (v := .tuple #[.agg #[.string S, .string ⟨l2.toArray⟩, .string ⟨l3.toArray⟩], .bool b]) (by simp [results, Tryz.results30, go_sem, *]) rfl ?_
                      all_goals exact ⟨by rw [HX.out, HSe.out], three_alloc tb (Nat.le_refl _) _ _ _ _⟩
                    | true =>
                      have hja1 := hax rfl
                      have hre2 := fun f hf => hre f hf hja1 rfl
                      clear hre
                      have hwa : IntKind.i64.wrap ((a : Int) - 1) = (a : Int) - 1 := by rw [IntKind.wrap_i64]; omega
                      have hwa2 : wrap64 ((a : Int) - 1) = (a : Int) - 1 := by unfold wrap64; omega
                      clear hrn hax
                      go_wp2_with (first
                        | (go_at_call 55; (first | (with_reducible refine (HI.out _).mono ?_) | (with_reducible refine (HJ.out _).mono ?_)); rintro e w1 ⟨rfl, hb1⟩; have tb := tb.trans (hb1.mono tb.size); have kk := blkKept hb1 kk; have c0 := laterW hb1 c0; have c1 := laterW hb1 c1; have d0 := laterW hb1 d0; have d1 := laterW hb1 d1)
                        )
                      clear c0 c1 d0 d1 HI HJ
                      have HRE := Lib.hid hre2
                      have HGO := Lib.hid hgd
                      have kk : Hid (bO w1 w.heap.size) := kk
                      clear hre2 hgd
                      go_loopg [9, 10] (a - 1 - j) (fun g fv kv wy => ∃ f k : Nat, fv = .int .i64 f ∧ kv = .int .i64 k ∧ k < a ∧ g + j = k ∧ Below w.heap.size w wy ∧ Hid (bO wy w.heap.size) ∧ Hid (RtAt m j a k f))
                      case atStart => exact ⟨j + 1, a - 1, int_of (by omega), int_of (by omega), by omega, by omega, tb, kk, rt_start m j a⟩
                      case round =>
                        clear tb kk
                        obtain ⟨f, k, rfl, rfl, hka, hkg, tb, hkk, hrel⟩ := hrel
                        have kk := hkk.out
                        have hle := rt_le hrel hia (by omega)
                        by_cases hjk : j < k
                        · have hkm : k < m.length := by omega
                          obtain ⟨c0, c1⟩ := HCE.out k hkm
                          have c0 := cell_later tb c0
                          have c1 := cell_later tb c1
                          have k0 : (0 : Int) ≤ (k : Int) := by omega
                          have k1 : (k : Int) < (n : Int) := by omega
                          have k2 : k < n := by omega
                          have q5 : decide ((k : Int) > (j : Int)) = true := decide_eq_true (by omega)
                          have q6 : decide ((j : Int) < (k : Int)) = true := decide_eq_true (by omega)
                          have hwk : IntKind.i64.wrap ((k : Int) - 1) = (k : Int) - 1 := by rw [IntKind.wrap_i64]; omega
                          have hwk2 : wrap64 ((k : Int) - 1) = (k : Int) - 1 := by unfold wrap64; omega
                          have HI := Lib.hid (fun w => ris_any 58 m[k].kind m[k].text w)
                          have hyes := fun ht => rt_hit (i := j) hkm hka hjk ht
                          have hno := fun ht => rt_miss hrel hkm ht
                          have h6z : isT 58 m[k] = isT 58 ⟨m[k].kind, m[k].text⟩ := rfl
                          rw [h6z] at hyes hno
                          generalize m[k].kind = k5 at *
                          generalize m[k].text = T5 at *
                          generalize isT 58 ⟨k5, T5⟩ = tt at *
                          clear h6z hrel hkk
                          cases tt with
                          | true =>
                            have hd := hyes rfl
                            clear hyes hno
                            go_wp2_with (first
                              | (go_at_call 55; (with_reducible refine (HI.out _).mono ?_); rintro e w1 ⟨rfl, hb1⟩; have tb := tb.trans (hb1.mono tb.size); have kk := blkKept hb1 kk; have c0 := laterW hb1 c0; have c1 := laterW hb1 c1; have y0 := Lib.cell_of_heap kk 0; have f0 := fun j => frozen_of (j := j) kk; have y1 := Lib.cell_of_heap kk 1; have y2 := Lib.cell_of_heap kk 2)
                              )
                            go_roundg (k - 1 - j)
                            case rel => exact ⟨k + 1, k - 1, int_of (by omega), int_of (by omega), by omega, by omega, tb, kk, hd⟩
                            case measure => omega
                          | false =>
                            have hd := hno rfl
                            clear hyes hno
                            go_wp2_with (first
                              | (go_at_call 55; (with_reducible refine (HI.out _).mono ?_); rintro e w1 ⟨rfl, hb1⟩; have tb := tb.trans (hb1.mono tb.size); have kk := blkKept hb1 kk; have c0 := laterW hb1 c0; have c1 := laterW hb1 c1; have y0 := Lib.cell_of_heap kk 0; have f0 := fun j => frozen_of (j := j) kk; have y1 := Lib.cell_of_heap kk 1; have y2 := Lib.cell_of_heap kk 2)
                              )
                            go_roundg (k - 1 - j)
                            case rel => exact ⟨f, k - 1, rfl, int_of (by omega), by omega, by omega, tb, kk, hd⟩
                            case measure => omega
                        · obtain rfl : k = j := by omega
                          have q5 : decide ((k : Int) > (k : Int)) = false := decide_eq_false (by omega)
                          have q6 : decide ((k : Int) < (k : Int)) = false := decide_eq_false (by omega)
                          have hgd := HGO.out
                          rw [HRE.out f hrel] at hgd
                          clear HGO HRE
                          have hfa : f ≤ a := hle.2
                          clear hrel hkk
                          have hS := fun w' (hb : Below w.heap.size w w') => rspecA_any (some ⟨g, o + (f) * 2, none⟩) (a - (f)) (c - (f)) ((m.take a).drop (f)) w' (TSl.mid HL.out hc hfa (Nat.le_of_lt hlt2) (HCE.out.later hb) (.inr ⟨rfl, rfl⟩)) (by omega) (by have := vals_drop (m.take a) (f); have := vals_take m a; have := HV0.out; omega) (fun t ht => HT.out t (List.mem_of_mem_take (List.mem_of_mem_drop ht)))
                          generalize specP ((m.take a).drop (f)) = P at *
                          obtain ⟨⟨l1, l2, l3⟩, b⟩ := P
                          have HX : Hid (oneP m = (⟨nl, l2, l3⟩, b)) := hgd
                          have HS := Lib.hid hS
                          clear hS hgd
                          have uf1 : ((f : Nat) : Int) ≤ (a : Int) := by omega
                          have uf2 : (a : Int) ≤ (n : Int) := by omega
                          have uf3 : (a : Int) ≤ (c : Int) := by omega
                          have uf4 : ¬ c = f := by omega
                          go_wp2_with (first
                            | (go_at_call 56; (with_reducible refine (HS.out _ tb).mono ?_); rintro e w5 ⟨rfl, hb5⟩; have kk := blkKept hb5 kk; have tb := tb.trans (hb5.mono tb.size); have hw5 := lt_of_block kk; have y0 := Lib.cell_of_heap kk 0; have f0 := fun j => frozen_of (j := j) kk; have y1 := Lib.cell_of_heap kk 1; have y2 := Lib.cell_of_heap kk 2; have kk2 : (w5.alloc (.cells #[.string S, .string ⟨l2.toArray⟩, .string ⟨l3.toArray⟩] 34)).heap[w.heap.size]? = some (.cells #[.string ⟨#[]⟩, .string ⟨#[]⟩, .string ⟨#[]⟩] 34 (0, 0)) := blkKept ((Below.refl w5.heap.size w5).alloc (Nat.le_refl _) _) kk; have hne : ¬ w.heap.size = w5.heap.size := Nat.ne_of_lt hw5; have hne2 : ¬ w5.heap.size = w.heap.size := Nat.ne_of_gt hw5; have e0 := Lib.cell_of_heap kk2 0; have e1 := Lib.cell_of_heap kk2 1; have e2 := Lib.cell_of_heap kk2 2; have fr := fun j => frozen_of (j := j) kk2; obtain ⟨⟨d1, d2⟩, ⟨d3, d4⟩⟩ := after_st (x := .string S) (y := .string ⟨l2.toArray⟩) (.cells #[.string S, .string ⟨l2.toArray⟩, .string ⟨l3.toArray⟩] 34) kk)
                            )
                          all_goals refine bodyPost_ret (v := .tuple #[.agg #[.string S, .string ⟨l2.toArray⟩, .string ⟨l3.toArray⟩], .bool b]) (by simp [results, Tryz.results30, go_sem, *]) rfl ?_
                          all_goals exact ⟨by rw [HX.out, HSe.out], three_alloc tb (Nat.le_refl _) _ _ _ _⟩
                  · have q2 : ((a : Int) != (n : Int) - 1) = true := by rw [bne_iff_ne]; omega
                    have HX := Lib.hid (hbad he)
                    clear hgo hbad hgood hax0
                    go_wp2_with (first
                      | (go_at_call 55; (with_reducible refine (HI.out _).mono ?_); rintro e w1 ⟨rfl, hb1⟩; have tb := tb.trans (hb1.mono tb.size); have kk := blkKept hb1 kk; have c0 := laterW hb1 c0; have c1 := laterW hb1 c1; have y0 := Lib.cell_of_heap kk 0; have f0 := fun j => frozen_of (j := j) kk; have y1 := Lib.cell_of_heap kk 1; have y2 := Lib.cell_of_heap kk 2)
                      )
                    refine bodyPost_ret (v := .tuple #[.agg #[.string ⟨#[]⟩, .string ⟨#[]⟩, .string ⟨#[]⟩], .bool false]) (by simp [results, Tryz.results30, go_sem, *]) rfl ?_
                    exact ⟨by rw [HX.out]; rfl, ((tb.setCell (Nat.le_refl _) _).setCell (Nat.le_refl _) _).setCell (Nat.le_refl _) _⟩
              · obtain rfl : a = n := by omega
                have HX := Lib.hid (oneP_bad2 hlj HIX.out hrel hja (by rw [HL.out]; exact Nat.le_refl _) (fun h => by rw [HL.out] at h; omega) hAT (by rw [HL.out]; omega))
                have q2 : ((a : Int) != (a : Int) - 1) = true := by rw [bne_iff_ne]; omega
                clear hrel hkk
                have y0 := Lib.cell_of_heap kk 0
                have f0 := fun j => frozen_of (j := j) kk
                have y1 := Lib.cell_of_heap kk 1
                have y2 := Lib.cell_of_heap kk 2
                go_wp2
                refine bodyPost_ret (v := .tuple #[.agg #[.string ⟨#[]⟩, .string ⟨#[]⟩, .string ⟨#[]⟩], .bool false]) (by simp [results, Tryz.results30, go_sem, *]) rfl ?_
                exact ⟨by rw [HX.out]; rfl, ((tb.setCell (Nat.le_refl _) _).setCell (Nat.le_refl _) _).setCell (Nat.le_refl _) _⟩
    · obtain rfl : i = n := by omega
      have hix : ¬ ixT 60 m < m.length := by rw [ixT_none (fun j hj => hrel.out j hj (by rw [HL.out] at hj; exact hj))]; omega
      have hX := oneP_no hix
      have hS := HS0.out
      generalize specP m = P at *
      obtain ⟨⟨l1, l2, l3⟩, b⟩ := P
      have HX := Lib.hid hX
      have HS := Lib.hid hS
      have e1 : ((i : Int) == (i : Int)) = true := beq_iff_eq.2 rfl
      clear hix hrel hkk hX hS HS0
      go_wp2_with (go_at_call 56; (with_reducible refine (HS.out _ tb).mono ?_); rintro e w2 ⟨rfl, hb2⟩; have kk := blkKept hb2 kk; have tb := tb.trans (hb2.mono tb.size); have y0 := Lib.cell_of_heap kk 0; have f0 := fun j => frozen_of (j := j) kk; have y1 := Lib.cell_of_heap kk 1; have y2 := Lib.cell_of_heap kk 2)
      refine bodyPost_ret (v := .tuple #[.agg #[.string ⟨l1.toArray⟩, .string ⟨l2.toArray⟩, .string ⟨l3.toArray⟩], .bool b]) (by simp [results, Tryz.results30, go_sem, *]) rfl ?_
      exact ⟨by rw [HX.out], ((tb.setCell (Nat.le_refl _) _).setCell (Nat.le_refl _) _).setCell (Nat.le_refl _) _⟩
end Go.Proofs.YtilccofdphohiaaGreatDoor
namespace Go.Proofs.YtilccofdphohiaaGreatDoor
open Go.RowKit Pk Ad Tk Fo Su

theorem pq_in {X L : List (List El)} {M cur : List El} {i : Nat} (h : Hid (L ++ pcs true cur (M.drop i) = X)) (hi : i < M.length) : Hid (L ++ pcs (!isT 62 M[i]) (cur ++ [M[i]]) (M.drop (i + 1)) = X) := by
  have e := h.out
  rw [List.drop_eq_getElem_cons hi, pcs] at e
  exact e
theorem pq_end {X L : List (List El)} {M cur : List El} {i : Nat} (h : Hid (L ++ pcs false cur (M.drop i) = X)) (hi : i < M.length) (h4 : isT 44 M[i] = true ∨ isT 59 M[i] = true) : Hid ((L ++ [cur]) ++ pcs false [] (M.drop (i + 1)) = X) := by
  have e := h.out
  have h60 : ¬ isT 60 M[i] = true := by rcases h4 with h | h <;> rw [two_kinds h (by decide)] <;> decide
  have h58 : ¬ isT 58 M[i] = true := by rcases h4 with h | h <;> rw [two_kinds h (by decide)] <;> decide
  have hor : (isT 44 M[i] || isT 59 M[i]) = true := by rcases h4 with h | h <;> rw [h] <;> simp
  rw [List.drop_eq_getElem_cons hi, pcs, if_neg h60, if_neg h58, if_pos hor] at e
  show _ = _
  rw [← e]; simp
theorem pq_58 {X L : List (List El)} {M cur : List El} {i : Nat} (h : Hid (L ++ pcs false cur (M.drop i) = X)) (hi : i < M.length) (h5 : isT 58 M[i] = true) : Hid (L ++ pcs (isT 60 M[i]) [] (M.drop (i + 1)) = X) := by
  have e := h.out
  have h60 := two_kinds (y := 60) h5 (by decide)
  rw [List.drop_eq_getElem_cons hi, pcs, if_neg (by rw [h60]; decide), if_pos h5] at e
  rw [h60]; exact e
theorem pq_on {X L : List (List El)} {M cur : List El} {i : Nat} (h : Hid (L ++ pcs false cur (M.drop i) = X)) (hi : i < M.length) (h5 : isT 58 M[i] = false) (h44 : isT 44 M[i] = false) (h59 : isT 59 M[i] = false) : Hid (L ++ pcs (isT 60 M[i]) (cur ++ [M[i]]) (M.drop (i + 1)) = X) := by
  have e := h.out
  rw [List.drop_eq_getElem_cons hi, pcs] at e
  cases h60 : isT 60 M[i] with
  | true => rw [if_pos h60] at e; exact e
  | false => rw [if_neg (by rw [h60]; decide), if_neg (by rw [h5]; decide), if_neg (by rw [h44, h59]; decide)] at e; exact e
theorem pq_fin {X L : List (List El)} {M cur : List El} {i : Nat} {b : Bool} (h : Hid (L ++ pcs b cur (M.drop i) = X)) (hi : ¬ i < M.length) : L ++ [cur] = X := by
  have e := h.out
  rw [List.drop_eq_nil_of_le (by omega)] at e
  rw [← e]
  cases b <;> rfl
/-- finished pieces: their blocks lie below C -/
def RelS (W : World) (C : Nat) (xs : List Sl3) (L : List (List El)) : Prop := xs.length = L.length ∧ ∀ i (h : i < xs.length) (h' : i < L.length), seesE W C 43 (.slice xs[i].1 xs[i].2.1 xs[i].2.2) L[i]
theorem RelS.keeps {W W' : World} {C D : Nat} {xs : List Sl3} {L : List (List El)} (h : RelS W C xs L) (hk : ∀ g cur fz, g < C → W.heap[g]? = some (.cells cur 43 fz) → W'.heap[g]? = W.heap[g]?) (hD : C ≤ D) : RelS W' D xs L :=
  ⟨h.1, fun i hi hi' => (h.2 i hi hi').keeps hk hD⟩
theorem RelS.snoc {W : World} {C : Nat} {xs : List Sl3} {L : List (List El)} {x : Sl3} {l : List El} (h : RelS W C xs L) (hx : seesE W C 43 (.slice x.1 x.2.1 x.2.2) l) : RelS W C (xs ++ [x]) (L ++ [l]) := by
  refine ⟨by rw [List.length_append, List.length_append, h.1]; rfl, fun i hi hi' => ?_⟩
  by_cases hlt : i < xs.length
  · rw [List.getElem_append_left hlt, List.getElem_append_left (by rw [← h.1]; exact hlt)]
    exact h.2 i hlt _
  · have e : i = xs.length := by rw [List.length_append] at hi; simp at hi; omega
    subst e
    have e2 := h.1
    rw [List.getElem_append_right (Nat.le_refl _), List.getElem_append_right (by omega)]
    simp [e2]
    exact hx
theorem sees_tsl {W : World} {C : Nat} {p : Option Addr} {n c : Nat} {l : List El} (h : seesE W C 43 (.slice p n c) l) : TSl W p n c l := by
  obtain ⟨p', c', h1, h2, h3⟩ := h.form
  injection h1 with h4 h5 h6
  subst h4 h6
  refine ⟨h5.symm, by omega, ?_⟩
  rcases h3 with h3 | ⟨g, h7, -, h8⟩
  · exact .inl h3
  · refine .inr ⟨g, 0, h7, fun j hj => ?_⟩
    rw [Nat.zero_add]; exact h8 j hj
theorem RelS.relP {W : World} {C : Nat} {xs : List Sl3} {L : List (List El)} (h : RelS W C xs L) : RelP W xs L := ⟨h.1, fun i hi hi' => sees_tsl (h.2 i hi hi')⟩
/-- where the walk over the tokens stands: out, the piece under way, the finished ones -/
structure PcI (w2 W : World) (B : Nat) (ov nv : Value) (xs : List Sl3) (L : List (List El)) (cur : List El) : Prop where
  bel : Below w2.heap.size w2 W
  lo : w2.heap.size ≤ B
  hi : B ≤ W.heap.size
  out : ownsG slLay W w2.heap.size 38 ov xs
  now : ownsE W B 43 nv cur
  rel : RelS W B xs L
theorem PcI.below {w2 W W' : World} {B : Nat} {ov nv : Value} {xs : List Sl3} {L : List (List El)} {cur : List El} (h : PcI w2 W B ov nv xs L cur) (hb : Below W.heap.size W W') : PcI w2 W' B ov nv xs L cur :=
  ⟨h.bel.trans (hb.mono h.bel.size), h.lo, Nat.le_trans h.hi hb.size, h.out.below hb (Nat.le_refl _), h.now.below hb (Nat.le_refl _), h.rel.keeps (fun g _ _ _ hg => hb.block g (lt_of_block hg)) (Nat.le_refl _)⟩
theorem PcI.alloc {w2 W : World} {B : Nat} {ov nv : Value} {xs : List Sl3} {L : List (List El)} {cur : List El} (h : PcI w2 W B ov nv xs L cur) (O : Obj) : PcI w2 (W.alloc O) B ov nv xs L cur := h.below ((Below.refl _ _).alloc (Nat.le_refl _) O)
theorem apart_rows {W : World} {B B' : Nat} {v v' : Value} {xs : List Sl3} {l : List El} (h : ownsG slLay W B 38 v xs) (h' : ownsE W B' 43 v' l) : v.ownBlock = none ∨ v.ownBlock ≠ v'.ownBlock := by
  rcases h.2 with ⟨rfl, -⟩ | ⟨g, cap, cur, rfl, -, hg, -⟩
  · exact .inl rfl
  · refine .inr fun e => ?_
    rcases h'.2 with ⟨rfl, -⟩ | ⟨g', cap', cur', rfl, -, hg', -⟩
    · cases e
    · have e : some g = some g' := e
      injection e with e
      subst e
      rw [hg] at hg'
      injection hg' with hg'
      injection hg' with h1 h2 h3
      exact absurd h2 (by decide)
theorem PcI.grownNow {w2 W W' : World} {B : Nat} {ov nv nv' : Value} {xs : List Sl3} {L : List (List El)} {cur cur' : List El} (h : PcI w2 W B ov nv xs L cur) (hn : ownsE W' B 43 nv' cur') (hg : W.grownBy W' nv.ownBlock) : PcI w2 W' B ov nv' xs L cur' := by
  refine ⟨Below_grownE h.bel (h.now.base h.lo) hg h.bel.size, h.lo, Nat.le_trans h.hi hg.size, World.ownsRow.kept h.out hg (apart_rows h.out h.now), hn, h.rel.keeps (fun g c f hgB hgg => hg.block g (lt_of_block hgg) fun e => ?_) (Nat.le_refl _)⟩
  have := World.ownsRow.lt h.now g e.symm
  omega
theorem PcI.reset {w2 W : World} {B : Nat} {ov nv : Value} {xs : List Sl3} {L : List (List El)} {cur : List El} (h : PcI w2 W B ov nv xs L cur) : PcI w2 W W.heap.size ov (.slice none 0 0) xs L [] :=
  ⟨h.bel, h.bel.size, Nat.le_refl _, h.out, ownsE.nil _ _ _, h.rel.keeps (fun _ _ _ _ _ => rfl) h.hi⟩
theorem PcI.grownOut {w2 W W' : World} {B : Nat} {ov ov' : Value} {x : Sl3} {xs : List Sl3} {L : List (List El)} {cur : List El} (h : PcI w2 W B ov (.slice x.1 x.2.1 x.2.2) xs L cur) (ho : ownsG slLay W' w2.heap.size 38 ov' (xs ++ [x])) (hg : W.grownBy W' ov.ownBlock) : PcI w2 W' W'.heap.size ov' (.slice none 0 0) (xs ++ [x]) (L ++ [cur]) [] := by
  have hb : Below w2.heap.size w2 W' := Below_grownG h.bel h.out hg h.bel.size
  have hkeep : ∀ g cur fz, g < W.heap.size → W.heap[g]? = some (.cells cur 43 fz) → W'.heap[g]? = W.heap[g]? := fun g c f hgB hgg => hg.block g hgB fun e => by
    rcases h.out.2 with ⟨rfl, -⟩ | ⟨g', cap, cur', rfl, -, hg', -⟩
    · cases e
    · have e : some g = some g' := e
      injection e with e
      subst e
      rw [hgg] at hg'
      injection hg' with hg'
      injection hg' with h1 h2 h3
      exact absurd h2 (by decide)
  refine ⟨hb, hb.size, Nat.le_refl _, ho, ownsE.nil _ _ _, RelS.snoc ?_ ?_⟩
  · exact h.rel.keeps (fun g c f hgB hgg => hkeep g c f (Nat.lt_of_lt_of_le hgB h.hi) hgg) (Nat.le_trans h.hi hg.size)
  · exact (h.now.sees (Nat.le_refl _)).keeps hkeep hg.size
theorem PcI.form {w2 W : World} {B : Nat} {ov nv : Value} {xs : List Sl3} {L : List (List El)} {cur : List El} (h : PcI w2 W B ov nv xs L cur) : ∃ p c, nv = .slice p cur.length c := by
  obtain ⟨p, c, h1, -, -⟩ := (h.now.sees (Nat.le_refl _)).form
  exact ⟨p, c, h1⟩
set_option maxHeartbeats 4000000 in
set_option maxRecDepth 100000 in
theorem rpieces_any (s : ByteArray) (w : World) (hs : s.size ≤ 1000000) : Calls Tryz.prog 29 #[.string s] w (PcsIs (piecesL s.data.toList) w) := by
  obtain ⟨X, hX⟩ : ∃ X, X = piecesL s.data.toList := ⟨_, rfl⟩
  have hlen : (bareE (sc s.data.toList)).length ≤ 1000000 := by
    have h1 := bareE_len (sc s.data.toList)
    have h2 := sc_length _ s.data.toList (Nat.le_refl _)
    rw [dataL] at h2
    omega
  have hsl : (sc s.data.toList).length ≤ 1000000 := by
    have h2 := sc_length _ s.data.toList (Nat.le_refl _)
    rw [dataL] at h2
    omega
  have hst : Hid ([] ++ pcs false [] ((bareE (sc s.data.toList)).drop 0) = X) := hX.symm
  rw [← hX]
  clear hX
  have HSc := Lib.hid (rscan_any s w (by omega))
  generalize sc s.data.toList = M0 at *
  have HB := Lib.hid (fun v w' (hM : seesE w' w'.heap.size 43 v M0) => rbare_any v M0 w' hM (by omega))
  generalize bareE M0 = M at *
  go_enter Tryz.func29, Tryz.ntmps29
  go_wp2_with (first
    | (go_at_call 54; (with_reducible refine HSc.out.mono ?_); rintro e w1 ⟨v1, rfl, hown1, hb1⟩; have hsee := ownsE.sees hown1 (Nat.le_refl _))
    | (go_at_call 53; (with_reducible refine (HB.out _ _ hsee).mono ?_); rintro e w2 ⟨v2, rfl, hown2, hb2⟩))
  obtain ⟨p0, c0, rfl, hT0⟩ := ownsE.tsk hown2
  have hb02 := hb1.trans (hb2.mono hb1.size)
  have hw2 := hb02.size
  have HT := Lib.hid hT0
  have hP0 : PcI w2 w2 w2.heap.size (.slice none 0 0) (.slice none 0 0) [] [] [] := ⟨Below.refl _ _, Nat.le_refl _, Nat.le_refl _, ownsG.nil _ _ _ _, ownsE.nil _ _ _, ⟨rfl, fun i h => absurd h (Nat.not_lt_zero i)⟩⟩
  clear hsee hown1 hown2 HSc HB hb1 hb2 hT0
  go_loopg [4, 5, 6, 7] M.length (fun g ov nv bv iv wr => ∃ (i : Nat) (b : Bool) (cur : List El) (xs : List Sl3) (L : List (List El)) (Bn : Nat), bv = .bool b ∧ iv = .int .i64 i ∧ i + g = M.length ∧ cur.length ≤ i ∧ L.length ≤ i ∧ PcI w2 wr Bn ov nv xs L cur ∧ Hid (L ++ pcs b cur (M.drop i) = X))
  case atStart => exact ⟨0, false, [], [], [], _, by first | rfl | trivial, by first | rfl | trivial, by omega, Nat.le_refl _, Nat.le_refl _, hP0, hst⟩
  case round =>
    clear hst hP0
    obtain ⟨i, b, cur, xs, L, Bn, rfl, rfl, hig, hci, hLi, hP, hrel⟩ := hrel
    have z0 : (0 : Int) ≤ (i : Int) := by omega
    obtain ⟨p1, c1', rfl⟩ := hP.form
    have hxl := hP.rel.1
    by_cases hlt : i < M.length
    · obtain ⟨g, o, rfl, hcells⟩ : ∃ g o, p0 = some ⟨g, o, none⟩ ∧ tokAt w2 g o M := HT.out.sl.ne (by omega)
      obtain ⟨d0, d1⟩ := hcells i hlt
      have c0 := cell_later hP.bel d0
      have c1 := cell_later hP.bel d1
      have z1 : (i : Int) < (M.length : Int) := by omega
      have HI := Lib.hid (fun x w => ris_any x M[i].kind M[i].text w)
      have s1 := fun (e : b = true) => pq_in (e ▸ hrel) hlt
      have s2 := fun (e : b = false) h => pq_end (e ▸ hrel) hlt h
      have s3 := fun (e : b = false) h => pq_58 (e ▸ hrel) hlt h
      have s4 := fun (e : b = false) h h' h'' => pq_on (e ▸ hrel) hlt h h' h''
      have e9 : M[i] = ⟨M[i].kind, M[i].text⟩ := rfl
      rw [e9] at s1 s2 s3 s4
      clear e9 hcells hrel
      generalize M[i].kind = k at *
      generalize M[i].text = T at *
      cases b with
      | true =>
        have hd := s1 rfl
        clear s1 s2 s3 s4
        go_wp2_with (first
          | (go_at_call 55; (with_reducible refine (HI.out _ _).mono ?_); rintro e w3 ⟨rfl, hb3⟩; have hP := hP.below hb3; have c0 := laterW hb3 c0; have c1 := laterW hb3 c1)
          | (at_builtin; go_loud (refine append_el _ rfl (.tmp 24) (.tmp 29) elT rfl Bn _ _ rfl (hP.alloc _).now ⟨_, 0, none⟩ ⟨k, T⟩ 1 rfl (cells_at _ _ (by first | rfl | simp) _ _) (by omega) (hP.alloc _).hi ?_; intro v6 w6 hown6 hg6; have hP := PcI.grownNow (hP.alloc _) hown6 hg6; clear hown6 hg6; have c0 := cell_later hP.bel d0; have c1 := cell_later hP.bel d1))
          )
        go_roundg (M.length - (i + 1))
        case rel => exact ⟨i + 1, !isT 62 ⟨k, T⟩, _, xs, L, Bn, rfl, by go_num, by omega, by rw [List.length_append, List.length_singleton]; omega, by omega, hP, hd⟩
        case measure => omega
      | false =>
        have s2 := s2 rfl
        have s3 := s3 rfl
        have s4 := s4 rfl
        cases h44 : isT 44 ⟨k, T⟩ with
        | true =>
          have hd := s2 (.inl h44)
          clear s1 s2 s3 s4
          go_wp2_with (first
            | (go_at_call 55; (with_reducible refine (HI.out _ _).mono ?_); rintro e w3 ⟨rfl, hb3⟩; have hP := hP.below hb3; have c0 := laterW hb3 c0; have c1 := laterW hb3 c1)
            | (at_builtin; go_loud (refine append_g _ rfl (.tmp 43) (.tmp 45) slT rfl w2.heap.size _ _ rfl (hP.alloc _).out ⟨_, 0, none⟩ [((p1, cur.length, c1') : Sl3)] 1 1 rfl rfl (fun j u h => cells_at _ _ (by first | rfl | simp) [_] _ j u h) (by have := hP.rel.1; omega) (by have := hP.rel.1; omega) (hP.alloc _).bel.size ?_; intro v7 w7 hown7 hg7; have hP := PcI.grownOut (x := (p1, cur.length, c1')) (hP.alloc _) hown7 hg7; clear hown7 hg7))
            )
          go_roundg (M.length - (i + 1))
          case rel => exact ⟨i + 1, false, _, _, _, _, rfl, by go_num, by omega, Nat.zero_le _, by rw [List.length_append, List.length_singleton]; omega, hP, hd⟩
          case measure => omega
        | false =>
          cases h59 : isT 59 ⟨k, T⟩ with
          | true =>
            have hd := s2 (.inr h59)
            clear s1 s2 s3 s4
            go_wp2_with (first
              | (go_at_call 55; (with_reducible refine (HI.out _ _).mono ?_); rintro e w3 ⟨rfl, hb3⟩; have hP := hP.below hb3; have c0 := laterW hb3 c0; have c1 := laterW hb3 c1)
              | (at_builtin; go_loud (refine append_g _ rfl (.tmp 43) (.tmp 45) slT rfl w2.heap.size _ _ rfl (hP.alloc _).out ⟨_, 0, none⟩ [((p1, cur.length, c1') : Sl3)] 1 1 rfl rfl (fun j u h => cells_at _ _ (by first | rfl | simp) [_] _ j u h) (by have := hP.rel.1; omega) (by have := hP.rel.1; omega) (hP.alloc _).bel.size ?_; intro v7 w7 hown7 hg7; have hP := PcI.grownOut (x := (p1, cur.length, c1')) (hP.alloc _) hown7 hg7; clear hown7 hg7))
              )
            go_roundg (M.length - (i + 1))
            case rel => exact ⟨i + 1, false, _, _, _, _, rfl, by go_num, by omega, Nat.zero_le _, by rw [List.length_append, List.length_singleton]; omega, hP, hd⟩
            case measure => omega
          | false =>
            cases h58 : isT 58 ⟨k, T⟩ with
            | true =>
              have hd := s3 h58
              clear s1 s2 s3 s4
              go_wp2_with (first
                | (go_at_call 55; (with_reducible refine (HI.out _ _).mono ?_); rintro e w3 ⟨rfl, hb3⟩; have hP := hP.below hb3; have c0 := laterW hb3 c0; have c1 := laterW hb3 c1)
                | (at_builtin; go_loud (refine append_el _ rfl (.tmp 47) (.tmp 52) elT rfl Bn _ _ rfl (hP.alloc _).now ⟨_, 0, none⟩ ⟨k, T⟩ 1 rfl (cells_at _ _ (by first | rfl | simp) _ _) (by omega) (hP.alloc _).hi ?_; intro v6 w6 hown6 hg6; have hP := PcI.grownNow (hP.alloc _) hown6 hg6; clear hown6 hg6; have c0 := cell_later hP.bel d0; have c1 := cell_later hP.bel d1))
                )
              go_roundg (M.length - (i + 1))
              case rel => exact ⟨i + 1, isT 60 ⟨k, T⟩, _, _, _, _, rfl, by go_num, by omega, Nat.zero_le _, by omega, hP.reset, hd⟩
              case measure => omega
            | false =>
              have hd := s4 h58 h44 h59
              clear s1 s2 s3 s4
              go_wp2_with (first
                | (go_at_call 55; (with_reducible refine (HI.out _ _).mono ?_); rintro e w3 ⟨rfl, hb3⟩; have hP := hP.below hb3; have c0 := laterW hb3 c0; have c1 := laterW hb3 c1)
                | (at_builtin; go_loud (refine append_el _ rfl (.tmp 47) (.tmp 52) elT rfl Bn _ _ rfl (hP.alloc _).now ⟨_, 0, none⟩ ⟨k, T⟩ 1 rfl (cells_at _ _ (by first | rfl | simp) _ _) (by omega) (hP.alloc _).hi ?_; intro v6 w6 hown6 hg6; have hP := PcI.grownNow (hP.alloc _) hown6 hg6; clear hown6 hg6; have c0 := cell_later hP.bel d0; have c1 := cell_later hP.bel d1))
                )
              go_roundg (M.length - (i + 1))
              case rel => exact ⟨i + 1, isT 60 ⟨k, T⟩, _, _, _, _, rfl, by go_num, by omega, by rw [List.length_append, List.length_singleton]; omega, by omega, hP, hd⟩
              case measure => omega
    · have hfin := pq_fin hrel hlt
      clear hrel
      go_wp2_with (first
        | (at_builtin; go_loud (refine append_g _ rfl (.tmp 64) (.tmp 66) slT rfl w2.heap.size _ _ rfl (hP.alloc _).out ⟨_, 0, none⟩ [((p1, cur.length, c1') : Sl3)] 1 1 rfl rfl (fun j u h => cells_at _ _ (by first | rfl | simp) [_] _ j u h) (by have := hP.rel.1; omega) (by have := hP.rel.1; omega) (hP.alloc _).bel.size ?_; intro v7 w7 hown7 hg7; have hP := PcI.grownOut (x := (p1, cur.length, c1')) (hP.alloc _) hown7 hg7; clear hown7 hg7))
        )
      all_goals go_ret
      all_goals exact ⟨v7, _, rfl, hP.out.base hw2, by rw [← hfin]; exact hP.rel.relP, hb02.trans (hP.bel.mono hw2)⟩
end Go.Proofs.YtilccofdphohiaaGreatDoor
namespace Go.Proofs.YtilccofdphohiaaGreatDoor
open Go.RowKit Pk Ad Tk Fo Su

set_option maxHeartbeats 4000000 in
set_option maxRecDepth 100000 in
theorem rparse_any (s : ByteArray) (w : World) (hs : s.size ≤ 1000000) : Calls Tryz.prog 12 #[.string s] w (ParsIs (parseA s.data.toList) w) := by
  have hP := rpieces_any s w hs
  have hle : ∀ L ∈ piecesL s.data.toList, L.length ≤ 1000000 ∧ (vals L).length ≤ 1000000 ∧ ∀ t ∈ L, t.text.size ≤ 1000000 := fun L hL => by
    obtain ⟨h1, h2, h3⟩ := piece_le hL
    rw [dataL] at h1 h2 h3
    exact ⟨by omega, by omega, fun t ht => by have := h3 t ht; omega⟩
  have hct : (piecesL s.data.toList).length ≤ 1000001 := by
    have := pieces_le (s := s.data.toList)
    rw [dataL] at this; omega
  have hpar : parseA s.data.toList = (goodL (piecesL s.data.toList), allL (piecesL s.data.toList)) := rfl
  rw [hpar]
  clear hpar
  generalize piecesL s.data.toList = L at *
  have hst : Hid (ParAt L 0 (([] : List AdB).map AdB.lst) true) := par_start L
  have HP := Lib.hid hP
  have HLE := Lib.hid hle
  clear hP hle
  go_enter Tryz.func12, Tryz.ntmps12
  go_wp2_with (go_at_call 29; (with_reducible refine HP.out.mono ?_); rintro e w1 ⟨v, xs, rfl, hown, hR, hb1⟩; obtain ⟨p, c, rfl, hc, hcs⟩ := slForm hown)
  have h1 := hb1.size
  have hxl := hR.1
  have hxn : xs.length ≤ 1000001 := by omega
  have HXL := Lib.hid hxl
  clear hown HP hxl
  have HR := Lib.hid hR
  have HC := Lib.hid hcs
  clear hR hcs
  go_loopg [5, 6, 7] xs.length (fun g av ov iv wr => ∃ (k : Nat) (b : Bool) (ys : List AdB), k + g = xs.length ∧ iv = .int .i64 k ∧ av = .bool b ∧ ys.length ≤ k ∧ ownsG adLay wr w1.heap.size 34 ov ys ∧ Below w1.heap.size w1 wr ∧ Hid (ParAt L k (ys.map AdB.lst) b))
  case atStart => exact ⟨0, true, [], by omega, by first | rfl | trivial, rfl, Nat.le_refl _, ownsG.nil _ _ _ _, Below.refl _ _, hst⟩
  case round =>
    clear hst
    obtain ⟨k, b, ys, hkg, rfl, rfl, hyk, hown, hbel, hrel⟩ := hrel
    have hsz := hbel.size
    by_cases hlt : k < xs.length
    · have hlL : k < L.length := by rw [← HXL.out]; exact hlt
      obtain ⟨gg, rfl, hcell⟩ : ∃ g, p = some ⟨g, 0, none⟩ ∧ ∀ j (hj : j < xs.length), w1.cell? ⟨g, j, none⟩ = some (.slice xs[j].1 xs[j].2.1 xs[j].2.2) := by
        rcases HC.out with h | h
        · rw [h] at hlt; simp at hlt
        · exact h
      have c0 := laterW (hbel.mono (Nat.le_refl _)) (hcell k hlt)
      have hT := HR.out.2 k hlt hlL
      obtain ⟨s1, s2, s3⟩ := par_step hrel.out hlL
      have hle := HLE.out L[k] (List.getElem_mem hlL)
      generalize L[k] = l at *
      generalize xs[k] = x at *
      obtain ⟨q, n, cc⟩ := x
      have hT : TSl w1 q n cc l := hT
      have c0 : wr.cell? ⟨gg, k, none⟩ = some (.slice q n cc) := c0
      have hln : l.length = n := hT.1
      by_cases h0 : n = 0
      · subst h0
        have hd := Lib.hid (s1 (List.eq_nil_of_length_eq_zero hln))
        clear s1 s2 s3 hT hle hcell hrel
        go_wp2_with fail
        go_roundg (xs.length - (k + 1))
        case rel => exact ⟨k + 1, b, ys, by omega, by go_num, rfl, by omega, hown, hbel, hd⟩
        case measure => omega
      · have hlne : l ≠ [] := fun e => h0 (by rw [← hln, e]; rfl)
        have hO : ∀ w', Below w1.heap.size w1 w' → Calls Tryz.prog 30 #[.slice q n cc] w' (PairA (oneP l) w') := fun w' hb => rone_any q n cc l w' (hT.later hb) (by omega) (by omega) hle.2.2
        have t2 := s2 hlne
        have t3 := s3 hlne
        have e0 : ((n : Int) == 0) = false := beq_eq_false_iff_ne.2 (by omega)
        generalize oneP l = P at *
        obtain ⟨⟨l1, l2, l3⟩, ok⟩ := P
        have HO := Lib.hid (hO wr hbel)
        cases ok with
        | true =>
          cases b with
          | true =>
            have hd : Hid (ParAt L (k + 1) ((ys ++ [(⟨⟨l1.toArray⟩, ⟨l2.toArray⟩, ⟨l3.toArray⟩⟩ : AdB)]).map AdB.lst) true) := by
              have := t2 rfl
              rw [List.map_append]
              exact this
            clear s1 s2 s3 t2 t3 hT hle hcell hrel hO
            go_wp2_with (first
              | (go_at_call 30; (with_reducible refine HO.out.mono ?_); rintro e w3 ⟨rfl, hb3⟩; have tb := hbel.trans (hb3.mono hsz); have hown3 := ownsG.below hown hb3 (Nat.le_refl _); have kk := heap_alloc_new w3 (.cells #[.string ⟨l1.toArray⟩, .string ⟨l2.toArray⟩, .string ⟨l3.toArray⟩] 34); have y0 := Lib.cell_of_heap kk 0; have y1 := Lib.cell_of_heap kk 1; have y2 := Lib.cell_of_heap kk 2)
              | (at_builtin; go_loud (refine append_g _ rfl (.tmp 33) (.tmp 35) adT rfl w1.heap.size _ _ rfl (ownsG.alloc (ownsG.alloc hown3 _) _) ⟨_, 0, none⟩ [(⟨⟨l1.toArray⟩, ⟨l2.toArray⟩, ⟨l3.toArray⟩⟩ : AdB)] 1 1 rfl rfl (cells_atA _ _ (by simp) [_, _, _] _) (by omega) (by omega) (by have := tb.size; simp; omega) ?_; intro v6 w6 hown6 hg6; have hb6 := Below_grownG ((tb.alloc tb.size _).alloc (by have := tb.size; simp; omega) _) (ownsG.alloc (ownsG.alloc hown3 _) _) hg6 (by have := tb.size; simp; omega); clear hg6)))
            go_roundg (xs.length - (k + 1))
            case rel => exact ⟨k + 1, true, _, by omega, by go_num, rfl, by rw [List.length_append, List.length_singleton]; omega, hown6, hb6, hd⟩
            case measure => omega
          | false =>
            have hd : Hid (ParAt L (k + 1) ((ys ++ [(⟨⟨l1.toArray⟩, ⟨l2.toArray⟩, ⟨l3.toArray⟩⟩ : AdB)]).map AdB.lst) false) := by
              have := t2 rfl
              rw [List.map_append]
              exact this
            clear s1 s2 s3 t2 t3 hT hle hcell hrel hO
            go_wp2_with (first
              | (go_at_call 30; (with_reducible refine HO.out.mono ?_); rintro e w3 ⟨rfl, hb3⟩; have tb := hbel.trans (hb3.mono hsz); have hown3 := ownsG.below hown hb3 (Nat.le_refl _); have kk := heap_alloc_new w3 (.cells #[.string ⟨l1.toArray⟩, .string ⟨l2.toArray⟩, .string ⟨l3.toArray⟩] 34); have y0 := Lib.cell_of_heap kk 0; have y1 := Lib.cell_of_heap kk 1; have y2 := Lib.cell_of_heap kk 2)
              | (at_builtin; go_loud (refine append_g _ rfl (.tmp 33) (.tmp 35) adT rfl w1.heap.size _ _ rfl (ownsG.alloc (ownsG.alloc hown3 _) _) ⟨_, 0, none⟩ [(⟨⟨l1.toArray⟩, ⟨l2.toArray⟩, ⟨l3.toArray⟩⟩ : AdB)] 1 1 rfl rfl (cells_atA _ _ (by simp) [_, _, _] _) (by omega) (by omega) (by have := tb.size; simp; omega) ?_; intro v6 w6 hown6 hg6; have hb6 := Below_grownG ((tb.alloc tb.size _).alloc (by have := tb.size; simp; omega) _) (ownsG.alloc (ownsG.alloc hown3 _) _) hg6 (by have := tb.size; simp; omega); clear hg6)))
            go_roundg (xs.length - (k + 1))
            case rel => exact ⟨k + 1, false, _, by omega, by go_num, rfl, by rw [List.length_append, List.length_singleton]; omega, hown6, hb6, hd⟩
            case measure => omega
        | false =>
          cases b with
          | true =>
            have hd := Lib.hid (t3 rfl)
            clear s1 s2 s3 t2 t3 hT hle hcell hrel hO
            go_wp2_with (go_at_call 30; (with_reducible refine HO.out.mono ?_); rintro e w3 ⟨rfl, hb3⟩; have tb := hbel.trans (hb3.mono hsz); have hown3 := ownsG.below hown hb3 (Nat.le_refl _))
            go_roundg (xs.length - (k + 1))
            case rel => exact ⟨k + 1, false, ys, by omega, by go_num, rfl, by omega, ownsG.alloc hown3 _, tb.alloc tb.size _, hd⟩
            case measure => omega
          | false =>
            have hd := Lib.hid (t3 rfl)
            clear s1 s2 s3 t2 t3 hT hle hcell hrel hO
            go_wp2_with (go_at_call 30; (with_reducible refine HO.out.mono ?_); rintro e w3 ⟨rfl, hb3⟩; have tb := hbel.trans (hb3.mono hsz); have hown3 := ownsG.below hown hb3 (Nat.le_refl _))
            go_roundg (xs.length - (k + 1))
            case rel => exact ⟨k + 1, false, ys, by omega, by go_num, rfl, by omega, ownsG.alloc hown3 _, tb.alloc tb.size _, hd⟩
            case measure => omega
    · obtain ⟨x1, x2⟩ := par_end hrel.out (by rw [← HXL.out]; exact hlt)
      have hpost : Hid (ParsIs (goodL L, allL L) w (.returned (.tuple #[u6, .bool b])) wr) := ⟨_, ys, by rw [x2], hown.base h1, x1, hb1.trans (hbel.mono h1)⟩
      clear hrel hown x1 x2
      go_wp2_with fail
      go_ret2
      exact hpost.out
end Go.Proofs.YtilccofdphohiaaGreatDoor
