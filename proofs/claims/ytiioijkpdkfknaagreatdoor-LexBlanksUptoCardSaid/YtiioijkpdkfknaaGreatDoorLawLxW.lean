/- Walks: the laws LexWrong and LexLines. -/
import Derived.Test.YtiioijkpdkfknaaGreatDoorLxJ
import Derived.Test.YtiioijkpdkfknaaGreatDoorLnM
namespace Lx
open Go Pk
theorem append_ba (a b : ByteArray) : (a ++ b).data.toList = a.data.toList ++ b.data.toList := by rw [ByteArray.data_append]; simp
theorem run_twice {s : ByteArray} {ts : List (Tok × Nat)} (h : Run s.data.toList 0 ts none) : ∃ us, Run (s ++ ⟨#[10]⟩ ++ s).data.toList 0 us none ∧ us.length = 2 * ts.length := by
  have h2 := h.shift (s.data.toList.length + 1)
  have h3 := h.more rfl s.data.toList _ _ (by rw [Nat.add_assoc]; exact h2)
  refine ⟨ts ++ shiftT (s.data.toList.length + 1) ts, ?_, ?_⟩
  · rw [append_ba, append_ba]
    have : (⟨#[10]⟩ : ByteArray).data.toList = [10] := rfl
    rw [this, List.append_assoc]
    exact h3
  · unfold shiftT
    rw [List.length_append, List.length_map]; omega
theorem run_split {s : ByteArray} {ts : List (Tok × Nat)} {k : Nat} (h : Run s.data.toList 0 ts (some k)) : k < s.size ∧ Run (s.extract 0 k).data.toList 0 ts none ∧ Run (s.extract k s.size).data.toList 0 [] (some 0) := by
  obtain ⟨x, Y, h1, h2, h3, h4⟩ := h.places.2 k rfl
  rw [Nat.zero_add] at h2
  have hl : s.size = x.length + Y.length := by rw [← dataL, h1, List.length_append]
  have hY : 0 < Y.length := List.length_pos_iff.2 h4.1
  refine ⟨by omega, ?_, ?_⟩
  · rw [ext_to, h1, h2]
    simpa using h3
  · rw [ext_from, h1, h2]
    simpa using Run.bad h4
end Lx
namespace Go.Proofs.YtiioijkpdkfknaaGreatDoor
open Go.RowKit Pk Lx

def TrueRet (w : World) (e : Ending) (w' : World) : Prop := e = .returned (.bool true) ∧ Below w.heap.size w w'
set_option maxHeartbeats 4000000 in
set_option maxRecDepth 100000 in
theorem lexWrong_any (s : ByteArray) (w : World) (hw : LW w) : Calls Tryz.prog 4 #[.string s] w (TrueRet w) := by
  have HW := Lib.hid (fun w1 (hb : Below w.heap.size w w1) => hw.later hb)
  have HSm := Lib.hid (small_any w hw)
  clear hw
  by_cases hs : 3000 < s.size
  · have q : decide ((3000 : Int) < (s.size : Int)) = true := decide_eq_true (by omega)
    go_enter Tryz.func4, Tryz.ntmps4
    go_wp2_with (go_at_call 8; (with_reducible refine HSm.out.mono ?_); rintro e w1 ⟨rfl, hb1⟩)
    go_ret
    exact ⟨rfl, hb1⟩
  · have q : decide ((3000 : Int) < (s.size : Int)) = false := decide_eq_false (by omega)
    obtain ⟨ts, er, hr⟩ := run_total s.data.toList.length s.data.toList 0 (Nat.le_refl _)
    cases er with
    | none =>
      obtain ⟨us, hu, hul⟩ := run_twice hr
      have hz : (s ++ ⟨#[10]⟩ ++ s).size = s.size + 1 + s.size := by rw [ByteArray.size_append, ByteArray.size_append]; rfl
      have H1 := Lib.hid (fun w1 (hb : Below w.heap.size w w1) => scan_ok s ts hr w1 (HW.out w1 hb) (by omega))
      have H2 := Lib.hid (fun w1 (hb : Below w.heap.size w w1) => scan_ok (s ++ ⟨#[10]⟩ ++ s) us hu w1 (HW.out w1 hb) (by omega))
      have q2 : ((us.length : Int) == 2 * (ts.length : Int)) = true := beq_iff_eq.2 (by omega)
      have hl1 : ts.length ≤ 3000 := by
        have := hr.count
        rw [dataL] at this; omega
      clear hu hr hul hz
      go_enter Tryz.func4, Tryz.ntmps4
      have tb : Below w.heap.size w w := Below.refl _ _
      go_wp2_with (first
        | (go_at_call 8; (with_reducible refine HSm.out.mono ?_); rintro e w1 ⟨rfl, hb1⟩; replace tb := tb.trans (hb1.mono tb.size))
        | (go_at_call 9; (with_reducible refine (H1.out _ tb).mono ?_); rintro e w2 ⟨p2, c2, rfl, -, hb2⟩; replace tb := tb.trans (hb2.mono tb.size))
        | (go_at_call 9; (with_reducible refine (H2.out _ tb).mono ?_); rintro e w3 ⟨p3, c3, rfl, -, hb3⟩; replace tb := tb.trans (hb3.mono tb.size)))
      go_ret
      exact ⟨rfl, tb⟩
    | some k =>
      obtain ⟨hk, h2, h3⟩ := run_split hr
      have hx := ext_size s 0 k
      have hy := ext_size s k s.size
      have H1 := Lib.hid (fun w1 (hb : Below w.heap.size w w1) => scan_bad s ts k hr w1 (HW.out w1 hb) (by omega))
      have H2 := Lib.hid (fun w1 (hb : Below w.heap.size w w1) => scan_ok (s.extract 0 k) ts h2 w1 (HW.out w1 hb) (by omega))
      have H3 := Lib.hid (fun w1 (hb : Below w.heap.size w w1) => scan_bad (s.extract k s.size) [] 0 h3 w1 (HW.out w1 hb) (by omega))
      have q3 : decide (s.size ≤ k) = false := decide_eq_false (by omega)
      have z1 : (k : Int) ≤ (s.size : Int) := by omega
      clear h2 h3 hr hx hy
      go_enter Tryz.func4, Tryz.ntmps4
      have tb : Below w.heap.size w w := Below.refl _ _
      go_wp2_with (first
        | (go_at_call 8; (with_reducible refine HSm.out.mono ?_); rintro e w1 ⟨rfl, hb1⟩; replace tb := tb.trans (hb1.mono tb.size))
        | (go_at_call 9; (with_reducible refine (H1.out _ tb).mono ?_); rintro e w2 ⟨rfl, hb2⟩; replace tb := tb.trans (hb2.mono tb.size))
        | (go_at_call 9; (with_reducible refine (H2.out _ tb).mono ?_); rintro e w3 ⟨p3, c3, rfl, -, hb3⟩; replace tb := tb.trans (hb3.mono tb.size))
        | (go_at_call 9; (with_reducible refine (H3.out _ tb).mono ?_); rintro e w4 ⟨rfl, hb4⟩; replace tb := tb.trans (hb4.mono tb.size)))
      go_ret
      exact ⟨rfl, tb⟩
theorem mapN_le (f : List UInt8 → List UInt8) (hf : ∀ x, (f x).length ≤ x.length + 1) (l : List UInt8) : (mapN f l).length ≤ 2 * l.length := by
  have h2 := flat_le f hf (linN l)
  rw [linN_join] at h2
  have h3 := linN_len l
  rw [mapN_lin]
  omega
set_option maxHeartbeats 4000000 in
set_option maxRecDepth 100000 in
theorem lexLines_any (s : ByteArray) (w : World) (hw : LW w) : Calls Tryz.prog 7 #[.string s] w (TrueRet w) := by
  have HW := Lib.hid (fun w1 (hb : Below w.heap.size w w1) => hw.later hb)
  have HSm := Lib.hid (small_any w hw)
  clear hw
  by_cases hs : 2000 < s.size
  · have q : decide ((2000 : Int) < (s.size : Int)) = true := decide_eq_true (by omega)
    go_enter Tryz.func7, Tryz.ntmps7
    go_wp2_with (go_at_call 8; (with_reducible refine HSm.out.mono ?_); rintro e w1 ⟨rfl, hb1⟩)
    go_ret
    exact ⟨rfl, hb1⟩
  · have q : decide ((2000 : Int) < (s.size : Int)) = false := decide_eq_false (by omega)
    by_cases h0 : 0 < s.size
    · have hne := neS h0
      have hlast : s.data.toList.getLast? = some (s[s.size - 1]'(by omega)) := by
        rw [List.getLast?_eq_getElem?, dataL, List.getElem?_eq_getElem (by rw [dataL]; omega)]
        rfl
      have z1 : (0 : Int) ≤ (s.size : Int) - 1 := by omega
      have z2 : ((s.size : Int) - 1).toNat = s.size - 1 := by omega
      have z3 : (1 : Int) ≤ (s.size : Int) := by omega
      by_cases h10 : s[s.size - 1]'(by omega) = 10
      · have q2 : (((s[s.size - 1]'(by omega)).toNat : Int) != 10) = false := by rw [h10]; rfl
        have hTl : s.data.toList = [] ∨ s.data.toList.getLast? = some 10 := .inr (by rw [hlast, h10])
        clear hlast h10
        have hbig : (s).size ≤ 2001 := by omega
        have hM := fun w1 (hb : Below w.heap.size w w1) => (show Calls Tryz.prog 13 #[.string (s)] w1 fun e w' => e = .returned (.string (toB (mapN stfL (s).data.toList))) ∧ Below w1.heap.size w1 w' by
          obtain ⟨⟨m, hm⟩, -⟩ := HW.out w1 hb
          exact stuff_any (s) w1 (by omega) m hm)
        have hMl := mapN_le stfL stf_le (s).data.toList
        rw [dataL] at hMl
        obtain ⟨M, hMe, hMd, hMs⟩ := arrE (mapN stfL (s).data.toList)
        have hM2 : toB (mapN stfL (s).data.toList) = M := hMe.symm
        rw [hM2] at hM
        have hrun := run_lines (s).data.toList hTl
        have hrun : Run (⟨#[84, 101, 120, 116, 58, 13, 10]⟩ ++ M ++ ⟨#[46, 10, 59]⟩ : ByteArray).data.toList 0 [(⟨4, (s).data.toList, 0⟩, 0), (⟨5, [59], 0⟩, (mapN stfL (s).data.toList).length + 9)] none := by
          rw [append_ba, append_ba, hMd]; exact hrun
        have hMb : M.size ≤ 5000 := by omega
        have hz : (⟨#[84, 101, 120, 116, 58, 13, 10]⟩ ++ M ++ ⟨#[46, 10, 59]⟩ : ByteArray).size = 7 + M.size + 3 := by rw [ByteArray.size_append, ByteArray.size_append]; rfl
        have H1 := Lib.hid (fun w1 (hb : Below w.heap.size w w1) => scan_ok _ _ hrun w1 (HW.out w1 hb) (by rw [hz]; omega))
        have HM := Lib.hid hM
        have ht : toB (s).data.toList = (s) := toB_back (s)
        have HTT := Lib.hid ht
        clear hM hMl hMe hMd hMs hM2 hrun hz hTl ht
        generalize (mapN stfL (s).data.toList).length + 9 = n9 at *
        go_enter Tryz.func7, Tryz.ntmps7
        have tb : Below w.heap.size w w := Below.refl _ _
        go_wp2_with (first
          | (go_at_call 8; (with_reducible refine HSm.out.mono ?_); rintro e w1 ⟨rfl, hb1⟩; replace tb := tb.trans (hb1.mono tb.size))
          | (go_at_call 13; (with_reducible refine (HM.out _ tb).mono ?_); rintro e w2 ⟨rfl, hb2⟩; replace tb := tb.trans (hb2.mono tb.size)))
        refine (H1.out _ tb).mono ?_
        rintro e w3 ⟨p3, c3, rfl, hs3, hb3⟩
        replace tb := tb.trans (hb3.mono tb.size)
        obtain ⟨p, c, hv, hlc, hcells⟩ := hs3.form
        injection hv with hv1 hv2 hv3
        subst hv1; subst hv3
        rcases hcells with h0 | ⟨g, rfl, -, hcells⟩
        · cases h0
        · obtain ⟨c0, c1, c2, c3'⟩ := lex_cells (hcells 0 (by simp))
          obtain ⟨d0, d1, d2, d3⟩ := lex_cells (hcells 1 (by simp))
          replace c0 : w3.cell? ⟨g, 0, none⟩ = some (.int .i64 4) := c0
          replace c1 : w3.cell? ⟨g, 1, none⟩ = some (.string (s)) := by rw [← HTT.out]; exact c1
          have c3 : w3.cell? ⟨g, 3, none⟩ = some (.int .i64 0) := c3'
          replace d1 : w3.cell? ⟨g, 5, none⟩ = some (.string ⟨#[59]⟩) := d1
          clear hcells c2 d0 d2 d3 c3' hs3
          go_wp2
          go_ret
          exact ⟨rfl, tb⟩
      · have q2 : (((s[s.size - 1]'(by omega)).toNat : Int) != 10) = true := by
          rw [bne_iff_ne]; intro e; apply h10; rw [← UInt8.toNat_inj]; exact_mod_cast e
        clear hlast h10
        have hTl : (s ++ ⟨#[10]⟩ : ByteArray).data.toList = [] ∨ (s ++ ⟨#[10]⟩ : ByteArray).data.toList.getLast? = some 10 := .inr (by
          rw [append_ba]
          have : (⟨#[10]⟩ : ByteArray).data.toList = [10] := rfl
          rw [this]; simp)
        have hTz : (s ++ ⟨#[10]⟩ : ByteArray).size = s.size + 1 := by rw [ByteArray.size_append]; rfl
        have hbig : (s ++ ⟨#[10]⟩).size ≤ 2001 := by omega
        have hM := fun w1 (hb : Below w.heap.size w w1) => (show Calls Tryz.prog 13 #[.string (s ++ ⟨#[10]⟩)] w1 fun e w' => e = .returned (.string (toB (mapN stfL (s ++ ⟨#[10]⟩).data.toList))) ∧ Below w1.heap.size w1 w' by
          obtain ⟨⟨m, hm⟩, -⟩ := HW.out w1 hb
          exact stuff_any (s ++ ⟨#[10]⟩) w1 (by omega) m hm)
        have hMl := mapN_le stfL stf_le (s ++ ⟨#[10]⟩).data.toList
        rw [dataL] at hMl
        obtain ⟨M, hMe, hMd, hMs⟩ := arrE (mapN stfL (s ++ ⟨#[10]⟩).data.toList)
        have hM2 : toB (mapN stfL (s ++ ⟨#[10]⟩).data.toList) = M := hMe.symm
        rw [hM2] at hM
        have hrun := run_lines (s ++ ⟨#[10]⟩).data.toList hTl
        have hrun : Run (⟨#[84, 101, 120, 116, 58, 13, 10]⟩ ++ M ++ ⟨#[46, 10, 59]⟩ : ByteArray).data.toList 0 [(⟨4, (s ++ ⟨#[10]⟩).data.toList, 0⟩, 0), (⟨5, [59], 0⟩, (mapN stfL (s ++ ⟨#[10]⟩).data.toList).length + 9)] none := by
          rw [append_ba, append_ba, hMd]; exact hrun
        have hMb : M.size ≤ 5000 := by omega
        have hz : (⟨#[84, 101, 120, 116, 58, 13, 10]⟩ ++ M ++ ⟨#[46, 10, 59]⟩ : ByteArray).size = 7 + M.size + 3 := by rw [ByteArray.size_append, ByteArray.size_append]; rfl
        have H1 := Lib.hid (fun w1 (hb : Below w.heap.size w w1) => scan_ok _ _ hrun w1 (HW.out w1 hb) (by rw [hz]; omega))
        have HM := Lib.hid hM
        have ht : toB (s ++ ⟨#[10]⟩).data.toList = (s ++ ⟨#[10]⟩) := toB_back (s ++ ⟨#[10]⟩)
        have HTT := Lib.hid ht
        clear hM hMl hMe hMd hMs hM2 hrun hz hTl ht
        generalize (mapN stfL (s ++ ⟨#[10]⟩).data.toList).length + 9 = n9 at *
        go_enter Tryz.func7, Tryz.ntmps7
        have tb : Below w.heap.size w w := Below.refl _ _
        go_wp2_with (first
          | (go_at_call 8; (with_reducible refine HSm.out.mono ?_); rintro e w1 ⟨rfl, hb1⟩; replace tb := tb.trans (hb1.mono tb.size))
          | (go_at_call 13; (with_reducible refine (HM.out _ tb).mono ?_); rintro e w2 ⟨rfl, hb2⟩; replace tb := tb.trans (hb2.mono tb.size)))
        refine (H1.out _ tb).mono ?_
        rintro e w3 ⟨p3, c3, rfl, hs3, hb3⟩
        replace tb := tb.trans (hb3.mono tb.size)
        obtain ⟨p, c, hv, hlc, hcells⟩ := hs3.form
        injection hv with hv1 hv2 hv3
        subst hv1; subst hv3
        rcases hcells with h0 | ⟨g, rfl, -, hcells⟩
        · cases h0
        · obtain ⟨c0, c1, c2, c3'⟩ := lex_cells (hcells 0 (by simp))
          obtain ⟨d0, d1, d2, d3⟩ := lex_cells (hcells 1 (by simp))
          replace c0 : w3.cell? ⟨g, 0, none⟩ = some (.int .i64 4) := c0
          replace c1 : w3.cell? ⟨g, 1, none⟩ = some (.string (s ++ ⟨#[10]⟩)) := by rw [← HTT.out]; exact c1
          have c3 : w3.cell? ⟨g, 3, none⟩ = some (.int .i64 0) := c3'
          replace d1 : w3.cell? ⟨g, 5, none⟩ = some (.string ⟨#[59]⟩) := d1
          clear hcells c2 d0 d2 d3 c3' hs3
          go_wp2
          go_ret
          exact ⟨rfl, tb⟩
    · have hne := nilS (S := s) (by omega)
      have hTl : s.data.toList = [] ∨ s.data.toList.getLast? = some 10 := .inl (by rw [← Lib.toList_data]; exact hne)
      have hbig : (s).size ≤ 2001 := by omega
      have hM := fun w1 (hb : Below w.heap.size w w1) => (show Calls Tryz.prog 13 #[.string (s)] w1 fun e w' => e = .returned (.string (toB (mapN stfL (s).data.toList))) ∧ Below w1.heap.size w1 w' by
        obtain ⟨⟨m, hm⟩, -⟩ := HW.out w1 hb
        exact stuff_any (s) w1 (by omega) m hm)
      have hMl := mapN_le stfL stf_le (s).data.toList
      rw [dataL] at hMl
      obtain ⟨M, hMe, hMd, hMs⟩ := arrE (mapN stfL (s).data.toList)
      have hM2 : toB (mapN stfL (s).data.toList) = M := hMe.symm
      rw [hM2] at hM
      have hrun := run_lines (s).data.toList hTl
      have hrun : Run (⟨#[84, 101, 120, 116, 58, 13, 10]⟩ ++ M ++ ⟨#[46, 10, 59]⟩ : ByteArray).data.toList 0 [(⟨4, (s).data.toList, 0⟩, 0), (⟨5, [59], 0⟩, (mapN stfL (s).data.toList).length + 9)] none := by
        rw [append_ba, append_ba, hMd]; exact hrun
      have hMb : M.size ≤ 5000 := by omega
      have hz : (⟨#[84, 101, 120, 116, 58, 13, 10]⟩ ++ M ++ ⟨#[46, 10, 59]⟩ : ByteArray).size = 7 + M.size + 3 := by rw [ByteArray.size_append, ByteArray.size_append]; rfl
      have H1 := Lib.hid (fun w1 (hb : Below w.heap.size w w1) => scan_ok _ _ hrun w1 (HW.out w1 hb) (by rw [hz]; omega))
      have HM := Lib.hid hM
      have ht : toB (s).data.toList = (s) := toB_back (s)
      have HTT := Lib.hid ht
      clear hM hMl hMe hMd hMs hM2 hrun hz hTl ht
      generalize (mapN stfL (s).data.toList).length + 9 = n9 at *
      go_enter Tryz.func7, Tryz.ntmps7
      have tb : Below w.heap.size w w := Below.refl _ _
      go_wp2_with (first
        | (go_at_call 8; (with_reducible refine HSm.out.mono ?_); rintro e w1 ⟨rfl, hb1⟩; replace tb := tb.trans (hb1.mono tb.size))
        | (go_at_call 13; (with_reducible refine (HM.out _ tb).mono ?_); rintro e w2 ⟨rfl, hb2⟩; replace tb := tb.trans (hb2.mono tb.size)))
      refine (H1.out _ tb).mono ?_
      rintro e w3 ⟨p3, c3, rfl, hs3, hb3⟩
      replace tb := tb.trans (hb3.mono tb.size)
      obtain ⟨p, c, hv, hlc, hcells⟩ := hs3.form
      injection hv with hv1 hv2 hv3
      subst hv1; subst hv3
      rcases hcells with h0 | ⟨g, rfl, -, hcells⟩
      · cases h0
      · obtain ⟨c0, c1, c2, c3'⟩ := lex_cells (hcells 0 (by simp))
        obtain ⟨d0, d1, d2, d3⟩ := lex_cells (hcells 1 (by simp))
        replace c0 : w3.cell? ⟨g, 0, none⟩ = some (.int .i64 4) := c0
        replace c1 : w3.cell? ⟨g, 1, none⟩ = some (.string (s)) := by rw [← HTT.out]; exact c1
        have c3 : w3.cell? ⟨g, 3, none⟩ = some (.int .i64 0) := c3'
        replace d1 : w3.cell? ⟨g, 5, none⟩ = some (.string ⟨#[59]⟩) := d1
        clear hcells c2 d0 d2 d3 c3' hs3
        go_wp2
        go_ret
        exact ⟨rfl, tb⟩
end Go.Proofs.YtiioijkpdkfknaaGreatDoor
