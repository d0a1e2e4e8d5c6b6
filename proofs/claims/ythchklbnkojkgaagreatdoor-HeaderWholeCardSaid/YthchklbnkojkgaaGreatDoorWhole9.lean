/- Walks: chapter 09's laws: HeaderWhole. -/
import Derived.Test.YthchklbnkojkgaaGreatDoorLaw9
namespace Go.Proofs.YthchklbnkojkgaaGreatDoor
open Go.RowKit Pk Hd

theorem bare_nil {x : List UInt8} (h : bareL x = []) (hx : x ≠ []) : x = [10] ∨ x = [13, 10] := by
  unfold bareL at h
  split at h
  · rename_i h10
    have hd : x = x.dropLast ++ [10] := by
      obtain ⟨t, rfl⟩ := List.getLast?_eq_some_iff.1 h10
      rw [List.dropLast_concat]
    unfold chop at h
    split at h
    · rename_i h13
      obtain ⟨t, ht⟩ := List.getLast?_eq_some_iff.1 h13
      rw [ht, List.dropLast_concat] at h
      rw [h] at ht
      rw [ht] at hd
      exact .inr hd
    · rw [h] at hd; exact .inl hd
  · exact absurd h hx
theorem field_bad (h : List UInt8) : (fieldL h).bad = (fieldL h).name.toList.isEmpty := by
  unfold fieldL
  split
  · rename_i hc
    rw [Bool.and_eq_true] at hc
    have hn := right_named.1 hc.2
    show false = (toB (trimR (nameL h))).toList.isEmpty
    rw [Lib.toList_data, toB_data]
    cases hq : trimR (nameL h) with
    | nil => exact absurd hq hn.ne
    | cons c r => rfl
  · show true = (toB []).toList.isEmpty
    rw [Lib.toList_data, toB_data]; rfl
theorem whole_cases (s : ByteArray) : ∃ (J : ByteArray) (at' : Nat) (L : ByteArray), J = toB (joinL (parS s.data.toList)) ∧ endS s.data.toList = at' ∧ J.size ≤ at' ∧ at' ≤ s.size ∧ s.extract 0 J.size = J ∧ s.extract J.size at' = L ∧ ((L = ⟨#[]⟩ ∧ at' = s.size) ∨ L = ⟨#[10]⟩ ∨ L = ⟨#[13, 10]⟩) ∧
    parS J.data.toList = parS s.data.toList ∧ endS J.data.toList = J.size ∧ ∀ x ∈ parS s.data.toList, parS x.raw.data.toList = [x] ∧ endS x.raw.data.toList = x.raw.size ∧ 0 < x.raw.size ∧ x.raw.size ≤ s.size ∧ x.bad = x.name.toList.isEmpty := by
  obtain ⟨j, r, h1, h2, h3, h4, h5, h6, h7, h8⟩ := whole_any _ s.data.toList (Nat.le_refl _)
  have hJ : (toB j).data.toList = j := toB_data j
  have hJs : (toB j).size = j.length := by rw [← dataL, hJ]
  have hsz : s.size = j.length + r.length := by rw [← dataL, h2, List.length_append]
  have hmem : ∀ x ∈ parS s.data.toList, x.raw.size ≤ j.length := fun x hx => by
    rw [← h1]
    unfold joinL
    obtain ⟨a, b, hab⟩ := List.append_of_mem hx
    rw [hab, List.flatMap_append, List.flatMap_cons, List.length_append, List.length_append, dataL]; omega
  have hlast : ∀ x ∈ parS s.data.toList, parS x.raw.data.toList = [x] ∧ endS x.raw.data.toList = x.raw.size ∧ 0 < x.raw.size ∧ x.raw.size ≤ s.size ∧ x.bad = x.name.toList.isEmpty := fun x hx => by
    have hm := hmem x hx
    obtain ⟨h, hh, rfl⟩ := h5 x hx
    obtain ⟨p1, p2⟩ := head_one hh
    have hz : (fieldL h).raw.size = h.length := by rw [raw_of, ← dataL, toB_data]
    refine ⟨by rw [raw_of, toB_data]; exact p1, by rw [hz, raw_of, toB_data]; exact p2, by rw [hz]; exact List.length_pos_iff.2 hh.ne, by omega, field_bad h⟩
  have hx0 : s.extract 0 (toB j).size = toB j := by rw [ext_to, hJs, h2, List.take_left']; rfl; rfl
  rcases h4 with rfl | ⟨he, hne⟩
  · rw [if_neg (by simp)] at h3
    rw [List.append_nil] at h2
    refine ⟨toB j, s.size, ⟨#[]⟩, by rw [h1], by rw [h3, hsz]; simp, by rw [hJs]; omega, Nat.le_refl _, hx0, ?_, .inl ⟨rfl, rfl⟩, by rw [hJ]; exact h6, by rw [hJ, hJs]; exact h7, hlast⟩
    have hjs : (toB j).size = s.size := by rw [hJs, hsz]; simp
    rw [hjs, ext_eq, Nat.sub_self, List.take_zero]
  · rw [if_pos ⟨he, hne⟩] at h3
    have hl := lineN_le r
    have hline : s.extract (toB j).size (endS s.data.toList) = toB (r.take (lineN r)) := by
      rw [ext_eq, h3, hJs, h2, List.drop_left' rfl]
      have : j.length + lineN r - j.length = lineN r := by omega
      rw [this]; rfl
    have hp := lineN_pos hne
    have hnt : r.take (lineN r) ≠ [] := fun e => by have := congrArg List.length e; rw [List.length_take, List.length_nil] at this; have := List.length_pos_iff.2 hne; omega
    have hb : bareL (r.take (lineN r)) = [] := by unfold emptyB at he; simpa using he
    refine ⟨toB j, endS s.data.toList, toB (r.take (lineN r)), by rw [h1], rfl, by rw [hJs, h3]; omega, by rw [h3, hsz]; omega, hx0, hline, ?_, by rw [hJ]; exact h6, by rw [hJ, hJs]; exact h7, hlast⟩
    rcases bare_nil hb hnt with e | e
    · exact .inr (.inl (by rw [e]; rfl))
    · exact .inr (.inr (by rw [e]; rfl))
set_option maxHeartbeats 8000000 in
set_option maxRecDepth 100000 in
theorem whole_of (s : ByteArray) (w : World) (h : Rt w) : Calls Tryz.prog 5 #[.string s] w (Truth w) := by
  have hS := small9_any w h
  have HS := Lib.hid hS
  have hF := few9_any s
  by_cases hfew : s.size ≤ 5000
  · rw [decide_eq_true hfew] at hF
    have HF := Lib.hid hF
    obtain ⟨J, n, L, f1, f2, f3, f4, f5, f6, f7, f8, f9, f10⟩ := whole_cases s
    have hP := fun w' hr => parse_rt s w' hr (by omega)
    have hPJ := fun w' hr => parse_rt J w' hr (by omega)
    unfold ParIs at hP hPJ
    rw [f8, f9] at hPJ
    rw [f2] at hP
    have hlen := par_length s.data.toList
    rw [dataL] at hlen
    have hJz : (joinL (parS s.data.toList)).length ≤ 100000000 := by
      have : J.size = (joinL (parS s.data.toList)).length := by rw [f1, ← dataL, toB_data]
      omega
    have hJ := fun v w' hM => join_any v (parS s.data.toList) w' hM (by omega) hJz
    rw [← f1] at hJ
    have hSM := fun va vb w' hA hB => same9_refl va vb (parS s.data.toList) w' hA hB (by omega)
    generalize parS s.data.toList = m at *
    have HP := Lib.hid hP
    have HPJ := Lib.hid hPJ
    have HJ := Lib.hid hJ
    have HSM := Lib.hid hSM
    have HX := Lib.hid f10
    have HR := Lib.hid h
    have tb := Below.refl w.heap.size w
    have z1 : (J.size : Int) ≤ (n : Int) := by omega
    have z2 : (n : Int) ≤ (s.size : Int) := by omega
    have z3 : (J.size : Int) ≤ (s.size : Int) := by omega
    have y1 : decide (n < J.size) = false := decide_eq_false (by omega)
    have y2 : decide (s.size < n) = false := decide_eq_false (by omega)
    have y3 : decide ((n : Int) < (J.size : Int)) = false := decide_eq_false (by omega)
    have y4 : decide ((s.size : Int) < (n : Int)) = false := decide_eq_false (by omega)
    clear hS hF hP hPJ hJ hSM f1 f2 f8 f9 f10 hJz h
    rcases f7 with ⟨rfl, rfl⟩ | rfl | rfl
    ·
      go_enter Tryz.func5, Tryz.ntmps5
      go_wp2_with (first
        | (go_at_call 8; (with_reducible refine HS.out.mono ?_); rintro e w1 ⟨rfl, hb1⟩; have tb := tb.trans hb1)
        | (go_at_call 9; (with_reducible refine (HF.out _).mono ?_); rintro e w1 ⟨rfl, rfl⟩)
        | (go_at_call 12; (with_reducible refine (HP.out _ (HR.out.later tb)).mono ?_); rintro e w2 ⟨v2, rfl, hown2, hb2⟩; have tb := tb.trans (hb2.mono tb.size); have hs2 := ownsG.sees hown2 (Nat.le_refl _))
        | (go_at_call 21; (with_reducible refine (HJ.out _ _ hs2).mono ?_); rintro e w3 ⟨rfl, hb3⟩; have tb := tb.trans (hb3.mono tb.size); have hs3 := sees_later hs2 hb3; obtain ⟨p3, c3, rfl, hc3, hM3⟩ := hs3.form))
      go_loopw [8, 9, 10] (fun iv _ _ wr => ∃ i : Nat, iv = .int .i64 i ∧ i ≤ m.length ∧ Below w3.heap.size w3 wr) (fun iv _ _ _ => m.length - (intOf iv).toNat)
      case atStart => exact ⟨0, by first | rfl | trivial, by omega, Below.refl _ _⟩
      case round =>
        obtain ⟨i, rfl, hi, hbel⟩ := hrel
        have hz := hbel.size
        have tb2 := tb.trans (hbel.mono tb.size)
        by_cases hlt : i < m.length
        · rcases hM3 with rfl | ⟨g, rfl, hg, hM⟩
          · simp at hlt
          · obtain ⟨e1, e2, e3, e4, e5⟩ := HX.out _ (List.getElem_mem hlt)
            have hq := fun w' (hr : Rt w') => parse_rt m[i].raw w' hr (by omega)
            unfold ParIs at hq
            rw [e1, e2] at hq
            obtain ⟨c0, c1, c2, c3⟩ := fld_cells (hM i hlt)
            have c0 := cell_later hbel c0
            have c1 := cell_later hbel c1
            have c2 := cell_later hbel c2
            have c3 := cell_later hbel c3
            have hgz : g < wr.heap.size := by omega
            have hne := neS (S := m[i].raw) (by omega)
            have z0 : (0 : Int) ≤ (i : Int) := by omega
            have z1 : (i : Int) < (m.length : Int) := by omega
            obtain ⟨⟨x0, x1, x2, x3⟩, hx⟩ : ∃ x, x = m[i] := ⟨_, rfl⟩
            rw [← hx] at hq c0 c1 c2 c3 hne e5
            have e5 : x3 = x0.toList.isEmpty := e5
            have hne : x2.toList.isEmpty = false := hne
            have c0 : wr.cell? ⟨g, i * 4, none⟩ = some (.string x0) := c0
            have c1 : wr.cell? ⟨g, i * 4 + 1, none⟩ = some (.string x1) := c1
            have c2 : wr.cell? ⟨g, i * 4 + 2, none⟩ = some (.string x2) := c2
            have c3 : wr.cell? ⟨g, i * 4 + 3, none⟩ = some (.bool x3) := c3
            have hq : ∀ w', Rt w' → Calls Tryz.prog 12 #[.string x2] w' fun e w1 => ∃ v, e = .returned (.tuple #[v, .int .i64 (x2.size : Nat)]) ∧ ownsG fldLay w1 w'.heap.size 29 v [⟨x0, x1, x2, x3⟩] ∧ Below w'.heap.size w' w1 := hq
            have HQ := Lib.hid hq
            have hRr := Lib.hid (HR.out.later tb2)
            clear e1 e2 e3 e4 hq hx hM
            go_wp2_with (go_at_call 12; (with_reducible refine (HQ.out _ hRr.out).mono ?_); rintro e w4 ⟨v4, rfl, hown4, hb4⟩; have hs4 := ownsG.sees hown4 (Nat.le_refl _); obtain ⟨g4, c4, rfl, hc4, hg4, hcell4⟩ := sees_slice hs4 1 rfl (by decide))
            have c0 := cell_later hb4 c0
            have c1 := cell_later hb4 c1
            have c2 := cell_later hb4 c2
            have c3 := cell_later hb4 c3
            obtain ⟨d0, d1, d2, d3⟩ := hcell4 0 Nat.one_pos
            have d0 : w4.cell? ⟨g4, 0, none⟩ = some (.string x0) := d0
            have d1 : w4.cell? ⟨g4, 1, none⟩ = some (.string x1) := d1
            have d2 : w4.cell? ⟨g4, 2, none⟩ = some (.string x2) := d2
            have d3 : w4.cell? ⟨g4, 3, none⟩ = some (.bool x3) := d3
            clear hcell4 hs4 hown4
            try dsimp only [List.append]
            go_quiet (fail)
            go_wp2
            go_roundw
            case rel => exact ⟨i + 1, by go_num, by omega, hbel.trans ((hb4.mono hz).trans ((drewN_below _ _).mono (Nat.le_trans hz hb4.size)))⟩
            case measure => simp [intOf]; omega
        · have hs3 := hs3.later hbel (Nat.le_refl _)
          have hRr := Lib.hid (HR.out.later tb2)
          clear hM3
          go_wp2_with (first
            | (go_at_call 12; (with_reducible refine (HPJ.out _ hRr.out).mono ?_); rintro e w5 ⟨v5, rfl, hown5, hb5⟩; have tb2 := tb2.trans (hb5.mono tb2.size); have hs5 := ownsG.sees hown5 (Nat.le_refl _); have hs3 := sees_later hs3 hb5)
            | (go_at_call 20; (with_reducible refine (HSM.out _ _ _ hs5 hs3).mono ?_); rintro e w6 ⟨rfl, hb6⟩; have tb2 := tb2.trans (hb6.mono tb2.size)))
          go_ret
          exact ⟨rfl, tb2⟩
    ·
      go_enter Tryz.func5, Tryz.ntmps5
      go_wp2_with (first
        | (go_at_call 8; (with_reducible refine HS.out.mono ?_); rintro e w1 ⟨rfl, hb1⟩; have tb := tb.trans hb1)
        | (go_at_call 9; (with_reducible refine (HF.out _).mono ?_); rintro e w1 ⟨rfl, rfl⟩)
        | (go_at_call 12; (with_reducible refine (HP.out _ (HR.out.later tb)).mono ?_); rintro e w2 ⟨v2, rfl, hown2, hb2⟩; have tb := tb.trans (hb2.mono tb.size); have hs2 := ownsG.sees hown2 (Nat.le_refl _))
        | (go_at_call 21; (with_reducible refine (HJ.out _ _ hs2).mono ?_); rintro e w3 ⟨rfl, hb3⟩; have tb := tb.trans (hb3.mono tb.size); have hs3 := sees_later hs2 hb3; obtain ⟨p3, c3, rfl, hc3, hM3⟩ := hs3.form))
      go_loopw [8, 9, 10] (fun iv _ _ wr => ∃ i : Nat, iv = .int .i64 i ∧ i ≤ m.length ∧ Below w3.heap.size w3 wr) (fun iv _ _ _ => m.length - (intOf iv).toNat)
      case atStart => exact ⟨0, by first | rfl | trivial, by omega, Below.refl _ _⟩
      case round =>
        obtain ⟨i, rfl, hi, hbel⟩ := hrel
        have hz := hbel.size
        have tb2 := tb.trans (hbel.mono tb.size)
        by_cases hlt : i < m.length
        · rcases hM3 with rfl | ⟨g, rfl, hg, hM⟩
          · simp at hlt
          · obtain ⟨e1, e2, e3, e4, e5⟩ := HX.out _ (List.getElem_mem hlt)
            have hq := fun w' (hr : Rt w') => parse_rt m[i].raw w' hr (by omega)
            unfold ParIs at hq
            rw [e1, e2] at hq
            obtain ⟨c0, c1, c2, c3⟩ := fld_cells (hM i hlt)
            have c0 := cell_later hbel c0
            have c1 := cell_later hbel c1
            have c2 := cell_later hbel c2
            have c3 := cell_later hbel c3
            have hgz : g < wr.heap.size := by omega
            have hne := neS (S := m[i].raw) (by omega)
            have z0 : (0 : Int) ≤ (i : Int) := by omega
            have z1 : (i : Int) < (m.length : Int) := by omega
            obtain ⟨⟨x0, x1, x2, x3⟩, hx⟩ : ∃ x, x = m[i] := ⟨_, rfl⟩
            rw [← hx] at hq c0 c1 c2 c3 hne e5
            have e5 : x3 = x0.toList.isEmpty := e5
            have hne : x2.toList.isEmpty = false := hne
            have c0 : wr.cell? ⟨g, i * 4, none⟩ = some (.string x0) := c0
            have c1 : wr.cell? ⟨g, i * 4 + 1, none⟩ = some (.string x1) := c1
            have c2 : wr.cell? ⟨g, i * 4 + 2, none⟩ = some (.string x2) := c2
            have c3 : wr.cell? ⟨g, i * 4 + 3, none⟩ = some (.bool x3) := c3
            have hq : ∀ w', Rt w' → Calls Tryz.prog 12 #[.string x2] w' fun e w1 => ∃ v, e = .returned (.tuple #[v, .int .i64 (x2.size : Nat)]) ∧ ownsG fldLay w1 w'.heap.size 29 v [⟨x0, x1, x2, x3⟩] ∧ Below w'.heap.size w' w1 := hq
            have HQ := Lib.hid hq
            have hRr := Lib.hid (HR.out.later tb2)
            clear e1 e2 e3 e4 hq hx hM
            go_wp2_with (go_at_call 12; (with_reducible refine (HQ.out _ hRr.out).mono ?_); rintro e w4 ⟨v4, rfl, hown4, hb4⟩; have hs4 := ownsG.sees hown4 (Nat.le_refl _); obtain ⟨g4, c4, rfl, hc4, hg4, hcell4⟩ := sees_slice hs4 1 rfl (by decide))
            have c0 := cell_later hb4 c0
            have c1 := cell_later hb4 c1
            have c2 := cell_later hb4 c2
            have c3 := cell_later hb4 c3
            obtain ⟨d0, d1, d2, d3⟩ := hcell4 0 Nat.one_pos
            have d0 : w4.cell? ⟨g4, 0, none⟩ = some (.string x0) := d0
            have d1 : w4.cell? ⟨g4, 1, none⟩ = some (.string x1) := d1
            have d2 : w4.cell? ⟨g4, 2, none⟩ = some (.string x2) := d2
            have d3 : w4.cell? ⟨g4, 3, none⟩ = some (.bool x3) := d3
            clear hcell4 hs4 hown4
            try dsimp only [List.append]
            go_quiet (fail)
            go_wp2
            go_roundw
            case rel => exact ⟨i + 1, by go_num, by omega, hbel.trans ((hb4.mono hz).trans ((drewN_below _ _).mono (Nat.le_trans hz hb4.size)))⟩
            case measure => simp [intOf]; omega
        · have hs3 := hs3.later hbel (Nat.le_refl _)
          have hRr := Lib.hid (HR.out.later tb2)
          clear hM3
          go_wp2_with (first
            | (go_at_call 12; (with_reducible refine (HPJ.out _ hRr.out).mono ?_); rintro e w5 ⟨v5, rfl, hown5, hb5⟩; have tb2 := tb2.trans (hb5.mono tb2.size); have hs5 := ownsG.sees hown5 (Nat.le_refl _); have hs3 := sees_later hs3 hb5)
            | (go_at_call 20; (with_reducible refine (HSM.out _ _ _ hs5 hs3).mono ?_); rintro e w6 ⟨rfl, hb6⟩; have tb2 := tb2.trans (hb6.mono tb2.size)))
          go_ret
          exact ⟨rfl, tb2⟩
    ·
      go_enter Tryz.func5, Tryz.ntmps5
      go_wp2_with (first
        | (go_at_call 8; (with_reducible refine HS.out.mono ?_); rintro e w1 ⟨rfl, hb1⟩; have tb := tb.trans hb1)
        | (go_at_call 9; (with_reducible refine (HF.out _).mono ?_); rintro e w1 ⟨rfl, rfl⟩)
        | (go_at_call 12; (with_reducible refine (HP.out _ (HR.out.later tb)).mono ?_); rintro e w2 ⟨v2, rfl, hown2, hb2⟩; have tb := tb.trans (hb2.mono tb.size); have hs2 := ownsG.sees hown2 (Nat.le_refl _))
        | (go_at_call 21; (with_reducible refine (HJ.out _ _ hs2).mono ?_); rintro e w3 ⟨rfl, hb3⟩; have tb := tb.trans (hb3.mono tb.size); have hs3 := sees_later hs2 hb3; obtain ⟨p3, c3, rfl, hc3, hM3⟩ := hs3.form))
      go_loopw [8, 9, 10] (fun iv _ _ wr => ∃ i : Nat, iv = .int .i64 i ∧ i ≤ m.length ∧ Below w3.heap.size w3 wr) (fun iv _ _ _ => m.length - (intOf iv).toNat)
      case atStart => exact ⟨0, by first | rfl | trivial, by omega, Below.refl _ _⟩
      case round =>
        obtain ⟨i, rfl, hi, hbel⟩ := hrel
        have hz := hbel.size
        have tb2 := tb.trans (hbel.mono tb.size)
        by_cases hlt : i < m.length
        · rcases hM3 with rfl | ⟨g, rfl, hg, hM⟩
          · simp at hlt
          · obtain ⟨e1, e2, e3, e4, e5⟩ := HX.out _ (List.getElem_mem hlt)
            have hq := fun w' (hr : Rt w') => parse_rt m[i].raw w' hr (by omega)
            unfold ParIs at hq
            rw [e1, e2] at hq
            obtain ⟨c0, c1, c2, c3⟩ := fld_cells (hM i hlt)
            have c0 := cell_later hbel c0
            have c1 := cell_later hbel c1
            have c2 := cell_later hbel c2
            have c3 := cell_later hbel c3
            have hgz : g < wr.heap.size := by omega
            have hne := neS (S := m[i].raw) (by omega)
            have z0 : (0 : Int) ≤ (i : Int) := by omega
            have z1 : (i : Int) < (m.length : Int) := by omega
            obtain ⟨⟨x0, x1, x2, x3⟩, hx⟩ : ∃ x, x = m[i] := ⟨_, rfl⟩
            rw [← hx] at hq c0 c1 c2 c3 hne e5
            have e5 : x3 = x0.toList.isEmpty := e5
            have hne : x2.toList.isEmpty = false := hne
            have c0 : wr.cell? ⟨g, i * 4, none⟩ = some (.string x0) := c0
            have c1 : wr.cell? ⟨g, i * 4 + 1, none⟩ = some (.string x1) := c1
            have c2 : wr.cell? ⟨g, i * 4 + 2, none⟩ = some (.string x2) := c2
            have c3 : wr.cell? ⟨g, i * 4 + 3, none⟩ = some (.bool x3) := c3
            have hq : ∀ w', Rt w' → Calls Tryz.prog 12 #[.string x2] w' fun e w1 => ∃ v, e = .returned (.tuple #[v, .int .i64 (x2.size : Nat)]) ∧ ownsG fldLay w1 w'.heap.size 29 v [⟨x0, x1, x2, x3⟩] ∧ Below w'.heap.size w' w1 := hq
            have HQ := Lib.hid hq
            have hRr := Lib.hid (HR.out.later tb2)
            clear e1 e2 e3 e4 hq hx hM
            go_wp2_with (go_at_call 12; (with_reducible refine (HQ.out _ hRr.out).mono ?_); rintro e w4 ⟨v4, rfl, hown4, hb4⟩; have hs4 := ownsG.sees hown4 (Nat.le_refl _); obtain ⟨g4, c4, rfl, hc4, hg4, hcell4⟩ := sees_slice hs4 1 rfl (by decide))
            have c0 := cell_later hb4 c0
            have c1 := cell_later hb4 c1
            have c2 := cell_later hb4 c2
            have c3 := cell_later hb4 c3
            obtain ⟨d0, d1, d2, d3⟩ := hcell4 0 Nat.one_pos
            have d0 : w4.cell? ⟨g4, 0, none⟩ = some (.string x0) := d0
            have d1 : w4.cell? ⟨g4, 1, none⟩ = some (.string x1) := d1
            have d2 : w4.cell? ⟨g4, 2, none⟩ = some (.string x2) := d2
            have d3 : w4.cell? ⟨g4, 3, none⟩ = some (.bool x3) := d3
            clear hcell4 hs4 hown4
            try dsimp only [List.append]
            go_quiet (fail)
            go_wp2
            go_roundw
            case rel => exact ⟨i + 1, by go_num, by omega, hbel.trans ((hb4.mono hz).trans ((drewN_below _ _).mono (Nat.le_trans hz hb4.size)))⟩
            case measure => simp [intOf]; omega
        · have hs3 := hs3.later hbel (Nat.le_refl _)
          have hRr := Lib.hid (HR.out.later tb2)
          clear hM3
          go_wp2_with (first
            | (go_at_call 12; (with_reducible refine (HPJ.out _ hRr.out).mono ?_); rintro e w5 ⟨v5, rfl, hown5, hb5⟩; have tb2 := tb2.trans (hb5.mono tb2.size); have hs5 := ownsG.sees hown5 (Nat.le_refl _); have hs3 := sees_later hs3 hb5)
            | (go_at_call 20; (with_reducible refine (HSM.out _ _ _ hs5 hs3).mono ?_); rintro e w6 ⟨rfl, hb6⟩; have tb2 := tb2.trans (hb6.mono tb2.size)))
          go_ret
          exact ⟨rfl, tb2⟩
  · rw [decide_eq_false hfew] at hF
    have HF := Lib.hid hF
    clear hS hF h
    go_enter Tryz.func5, Tryz.ntmps5
    go_wp2_with (first
      | (go_at_call 8; (with_reducible refine HS.out.mono ?_); rintro e w1 ⟨rfl, hb1⟩)
      | (go_at_call 9; (with_reducible refine (HF.out _).mono ?_); rintro e w1 ⟨rfl, rfl⟩))
    go_ret
    exact ⟨rfl, hb1⟩
end Go.Proofs.YthchklbnkojkgaaGreatDoor
