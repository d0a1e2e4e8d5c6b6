/- Walks: chapter 10's laws: TokenTells. -/
import Derived.Test.YtlhmdooeffmedaaGreatDoorFew10
import Derived.Test.YtlhmdooeffmedaaGreatDoorR10e
import Derived.Deep.RegionHeld3
import Derived.Deep.DrawnRows
namespace Go.Proofs.YtlhmdooeffmedaaGreatDoor
open Go.RowKit Pk Tk Su Fo Rp

def SameStr (V : ByteArray) (w : World) (e : Ending) (w' : World) : Prop := e = .returned (.string V) ∧ Below w.heap.size w w'
theorem val_both (k : Int) (T : ByteArray) (hs : T.size ≤ 100000000) : ∃ V : ByteArray, (∀ w, Calls Tryz.prog 15 #[.agg #[.int .i64 k, .string T]] w fun e w' => e = .returned (.string V) ∧ Below w.heap.size w w') ∧ (∀ w, Calls Tryz.prog 16 #[.agg #[.int .i64 k, .string T]] w fun e w' => e = .returned (.string V) ∧ Below w.heap.size w w') :=
  ⟨_, fun w => value_any k T w hs, fun w => rvalue_any k T w hs⟩
theorem quo_both (s : ByteArray) (hs : s.size ≤ 1000000) : ∃ V : ByteArray, (∀ w, Rt w → Calls Tryz.prog 13 #[.string s] w fun e w' => e = .returned (.string V) ∧ Below w.heap.size w w') ∧ (∀ w, Calls Tryz.prog 14 #[.string s] w fun e w' => e = .returned (.string V) ∧ Below w.heap.size w w') :=
  ⟨_, fun w h => quote_rt s w h hs, fun w => rquote_any s w hs⟩
theorem scan_both (s : ByteArray) (hs : s.size ≤ 400) : ∃ m : List El, m.length ≤ 400 ∧ (joinE m).length ≤ 400 ∧ (∀ i (h : i < m.length), m[i].text.size ≤ 400) ∧ (∀ w, Calls Tryz.prog 6 #[.string s] w (ToksIs m w)) ∧ (∀ w, Calls Tryz.prog 7 #[.string s] w (ToksIs m w)) := by
  have hlen := sc_length _ s.data.toList (Nat.le_refl _)
  have hjs := join_sc _ s.data.toList (Nat.le_refl _)
  rw [dataL] at hlen
  refine ⟨sc s.data.toList, by omega, by rw [hjs, dataL]; exact hs, fun i hi => ?_, fun w => scan_any s w (by omega), fun w => rscan_any s w (by omega)⟩
  generalize sc s.data.toList = m at *
  have e : m = m.take i ++ m[i] :: m.drop (i + 1) := by rw [← List.drop_eq_getElem_cons hi, List.take_append_drop]
  have := congrArg List.length hjs
  unfold joinE at this
  conv at this => lhs; rw [e]
  rw [List.flatMap_append, List.flatMap_cons, List.length_append, List.length_append, dataL, dataL] at this
  omega
set_option maxHeartbeats 8000000 in
set_option maxRecDepth 100000 in
theorem tells_of (hsm : SmallP) (s : ByteArray) (k : Int) (T : ByteArray) (w : World) (h : Rt w) : Calls Tryz.prog 3 #[.string s, .agg #[.int .i64 k, .string T]] w (Truth w) := by
  have tb : Below w.heap.size w (w.alloc (.cells #[.int .i64 k, .string T] 23)) := (Below.refl _ _).alloc (Nat.le_refl _) _
  have b0 : (w.alloc (.cells #[.int .i64 k, .string T] 23)).cell? ⟨w.heap.size, 0, none⟩ = some (.int .i64 k) := (Lib.cell_of_heap (heap_alloc_new w _) 0).trans rfl
  have b1 : (w.alloc (.cells #[.int .i64 k, .string T] 23)).cell? ⟨w.heap.size, 1, none⟩ = some (.string T) := (Lib.cell_of_heap (heap_alloc_new w _) 1).trans rfl
  have hS := hsm _ (h.later tb)
  have HS := Lib.hid hS
  have hFA := few10_any s
  have hFB := few10_any T
  have HR := Lib.hid h
  clear h
  by_cases hfa : s.size ≤ 400
  · rw [decide_eq_true hfa] at hFA
    have HFA := Lib.hid hFA
    by_cases hfb : T.size ≤ 400
    · rw [decide_eq_true hfb] at hFB
      have HFB := Lib.hid hFB
      obtain ⟨m, hml, hjl, hsz, hs1, hs2⟩ := scan_both s hfa
      obtain ⟨V, hq1, hq2⟩ := quo_both s (by omega)
      obtain ⟨U, hv1, hv2⟩ := val_both k T (by omega)
      have HS1 := Lib.hid hs1
      have HS2 := Lib.hid hs2
      have HQ1 := Lib.hid hq1
      have HQ2 := Lib.hid hq2
      have HV1 := Lib.hid hv1
      have HV2 := Lib.hid hv2
      have HZ := Lib.hid hsz
      have hB1 := Lib.hid (fun v w' hM => bare_any v m w' hM (by omega))
      have hB2 := Lib.hid (fun v w' hM => rbare_any v m w' hM (by omega))
      have hbl : (bareE m).length ≤ 1000000 := by unfold bareE; have := List.length_filter_le (fun x : El => !(x.kind == 6) && !(x.kind == 3)) m; omega
      have hJ1 := Lib.hid (fun v w' hM => join_any v m w' hM (by omega) (by omega))
      have hJ2 := Lib.hid (fun v w' hM => rjoin_any v m w' hM (by omega) (by omega))
      have HM1 := Lib.hid (fun va vb w' hA hB => same_refl va vb m w' hA hB (by omega))
      have HM2 := Lib.hid (fun va vb w' hA hB => same_refl va vb (bareE m) w' hA hB hbl)
      generalize bareE m = mb at hB1 hB2 HM2
      obtain ⟨J, hJ⟩ : ∃ J : ByteArray, J = ⟨(joinE m).toArray⟩ := ⟨_, rfl⟩
      have HJ1 : Hid (∀ v w', seesE w' w'.heap.size 23 v m → Calls Tryz.prog 11 #[v] w' fun e w1 => e = .returned (.string J) ∧ Below w'.heap.size w' w1) := fun v w' hM => (hJ1.out v w' hM).mono fun e w1 ⟨he, hb⟩ => ⟨by rw [he, hJ], hb⟩
      have HJ2 : Hid (∀ v w', seesE w' w'.heap.size 23 v m → Calls Tryz.prog 12 #[v] w' fun e w1 => e = .returned (.string J) ∧ w' = w1) := fun v w' hM => (hJ2.out v w' hM).mono fun e w1 ⟨he, hb⟩ => ⟨by rw [he, hJ], hb⟩
      clear hS hFA hFB hs1 hs2 hq1 hq2 hv1 hv2 hJ1 hJ2 hJ hsz hjl
      go_enter Tryz.func3, Tryz.ntmps3
      go_wp2_with (first
        | (go_at_call 4; (with_reducible refine HS.out.mono ?_); rintro e w1 ⟨rfl, hb1⟩; have tb := tb.trans (hb1.mono tb.size); have b0 := cell_later hb1 b0; have b1 := cell_later hb1 b1)
        | (go_at_call 5; refine (HFA.out _).mono ?_; rintro e w' ⟨rfl, rfl⟩)
        | (go_at_call 5; refine (HFB.out _).mono ?_; rintro e w' ⟨rfl, rfl⟩)
        | (go_at_call 6; (with_reducible refine (HS1.out _).mono ?_); rintro e w3 ⟨v3, rfl, hown3, hb3⟩; have tb := tb.trans (hb3.mono tb.size); have b0 := cell_later hb3 b0; have b1 := cell_later hb3 b1; have hs3 := ownsE.sees hown3 (Nat.le_refl _))
        | (go_at_call 7; (with_reducible refine (HS2.out _).mono ?_); rintro e w4 ⟨v4, rfl, hown4, hb4⟩; have tb := tb.trans (hb4.mono tb.size); have b0 := cell_later hb4 b0; have b1 := cell_later hb4 b1; have hs3 := sees_later hs3 hb4; have hs4 := ownsE.sees hown4 (Nat.le_refl _))
        | (go_at_call 8; (with_reducible refine (HM1.out _ _ _ hs3 hs4).mono ?_); rintro e w5 ⟨rfl, hb5⟩; have tb := tb.trans (hb5.mono tb.size); have b0 := cell_later hb5 b0; have b1 := cell_later hb5 b1; have hs3 := sees_later hs3 hb5; have hs4 := sees_later hs4 hb5)
        | (go_at_call 9; (with_reducible refine (hB1.out _ _ hs3).mono ?_); rintro e w6 ⟨v6, rfl, hown6, hb6⟩; have tb := tb.trans (hb6.mono tb.size); have b0 := cell_later hb6 b0; have b1 := cell_later hb6 b1; have hs3 := sees_later hs3 hb6; have hs4 := sees_later hs4 hb6; have hs6 := ownsE.sees hown6 (Nat.le_refl _))
        | (go_at_call 10; (with_reducible refine (hB2.out _ _ hs4).mono ?_); rintro e w7 ⟨v7, rfl, hown7, hb7⟩; have tb := tb.trans (hb7.mono tb.size); have b0 := cell_later hb7 b0; have b1 := cell_later hb7 b1; have hs3 := sees_later hs3 hb7; have hs4 := sees_later hs4 hb7; have hs6 := sees_later hs6 hb7; have hs7 := ownsE.sees hown7 (Nat.le_refl _))
        | (go_at_call 8; (with_reducible refine (HM2.out _ _ _ hs6 hs7).mono ?_); rintro e w8 ⟨rfl, hb8⟩; have tb := tb.trans (hb8.mono tb.size); have b0 := cell_later hb8 b0; have b1 := cell_later hb8 b1; have hs3 := sees_later hs3 hb8; have hs4 := sees_later hs4 hb8)
        | (go_at_call 11; (with_reducible refine (HJ1.out _ _ hs3).mono ?_); rintro e w9 ⟨rfl, hb9⟩; have tb := tb.trans (hb9.mono tb.size); have b0 := cell_later hb9 b0; have b1 := cell_later hb9 b1; have hs3 := sees_later hs3 hb9; have hs4 := sees_later hs4 hb9)
        | (go_at_call 12; (with_reducible refine (HJ2.out _ _ hs4).mono ?_); rintro e w10 ⟨rfl, rfl⟩)
        | (go_at_call 13; (with_reducible refine (HQ1.out _ (HR.out.later tb)).mono ?_); rintro e w11 ⟨rfl, hb11⟩; have tb := tb.trans (hb11.mono tb.size); have b0 := cell_later hb11 b0; have b1 := cell_later hb11 b1; have hs3 := sees_later hs3 hb11)
        | (go_at_call 14; (with_reducible refine (HQ2.out _).mono ?_); rintro e w12 ⟨rfl, hb12⟩; have tb := tb.trans (hb12.mono tb.size); have b0 := cell_later hb12 b0; have b1 := cell_later hb12 b1; have hs3 := sees_later hs3 hb12; clear hs4 hs6 hs7 hown3 hown4 hown6 hown7; obtain ⟨p3, c3, rfl, hc3, hM3⟩ := hs3.form))
      go_loopw [8] (fun iv wr => ∃ i : Nat, iv = .int .i64 i ∧ i ≤ m.length ∧ Below w12.heap.size w12 wr) (fun iv _ => m.length - (intOf iv).toNat)
      case atStart => exact ⟨0, by first | rfl | trivial, by omega, Below.refl _ _⟩
      case round =>
        obtain ⟨i, rfl, hi, hbel⟩ := hrel
        have hz := hbel.size
        have tb := tb.trans (hbel.mono tb.size)
        by_cases hlt : i < m.length
        · rcases hM3 with rfl | ⟨g, rfl, hg, hM⟩
          · simp at hlt
          · obtain ⟨c0, c1⟩ := hM i hlt
            have c0 := cell_later hbel c0
            have c1 := cell_later hbel c1
            have hT := HZ.out i hlt
            obtain ⟨X, hx1, hx2⟩ := val_both m[i].kind m[i].text (by omega)
            have z0 : (0 : Int) ≤ (i : Int) := by omega
            have z1 : (i : Int) < (m.length : Int) := by omega
            generalize (m[i].kind : Int) = kk at *
            generalize m[i].text = TT at *
            have HX1 := Lib.hid hx1
            have HX2 := Lib.hid hx2
            have hb9 := (Below.refl wr.heap.size wr).drew
            clear hx1 hx2 hM hs3 b0 b1
            go_wp2
            go_region_held3 (fun w => w.cell? ⟨g, i * 2, none⟩ = some (.int .i64 kk) ∧ w.cell? ⟨g, i * 2 + 1, none⟩ = some (.string TT)) (exact ⟨by assumption, by assumption⟩) (first
              | (go_at_call 15; (with_reducible refine (HX1.out _).mono ?_); rintro e w13 ⟨rfl, hb13⟩; have c0 := cell_later hb13 c0; have c1 := cell_later hb13 c1; have hb9 := hb9.trans (hb13.mono hb9.size))
              | (go_at_call 16; (with_reducible refine (HX2.out _).mono ?_); rintro e w14 ⟨rfl, hb14⟩; have c0 := cell_later hb14 c0; have c1 := cell_later hb14 c1; have hb9 := hb9.trans (hb14.mono hb9.size)))
            all_goals
              go_wp2
              go_roundw
              case rel => exact ⟨i + 1, by go_num, by omega, hbel.trans (hb9.mono hz)⟩
              case measure => simp [intOf]; omega
        · clear hM3 hs3
          have b0 := cell_later hbel b0
          have b1 := cell_later hbel b1
          have tb := tb.drew
          go_wp2
          go_region_held3 (fun wx => wx.cell? ⟨w.heap.size, 0, none⟩ = some (.int .i64 k) ∧ wx.cell? ⟨w.heap.size, 1, none⟩ = some (.string T)) (exact ⟨by assumption, by assumption⟩) (first
            | (go_at_call 15; (with_reducible refine (HV1.out _).mono ?_); rintro e w15 ⟨rfl, hb15⟩; have b0 := cell_later hb15 b0; have b1 := cell_later hb15 b1; have tb := tb.trans (hb15.mono tb.size))
            | (go_at_call 16; (with_reducible refine (HV2.out _).mono ?_); rintro e w16 ⟨rfl, hb16⟩; have b0 := cell_later hb16 b0; have b1 := cell_later hb16 b1; have tb := tb.trans (hb16.mono tb.size)))
          all_goals
            go_wp2
            go_ret
            exact ⟨rfl, tb⟩
    · rw [decide_eq_false hfb] at hFB
      have HFB := Lib.hid hFB
      clear hS hFA hFB hfa hfb HR b0
      go_enter Tryz.func3, Tryz.ntmps3
      go_wp2_with (first
        | (go_at_call 4; (with_reducible refine HS.out.mono ?_); rintro e w1 ⟨rfl, hb1⟩; have tb := tb.trans (hb1.mono tb.size); have b1 := cell_later hb1 b1)
        | (go_at_call 5; refine (HFA.out _).mono ?_; rintro e w' ⟨rfl, rfl⟩)
        | (go_at_call 5; refine (HFB.out _).mono ?_; rintro e w' ⟨rfl, rfl⟩))
      go_ret
      exact ⟨rfl, tb⟩
  · rw [decide_eq_false hfa] at hFA
    have HFA := Lib.hid hFA
    have HFB := Lib.hid hFB
    clear hS hFA hFB hfa HR b0
    go_enter Tryz.func3, Tryz.ntmps3
    go_wp2_with (first
      | (go_at_call 4; (with_reducible refine HS.out.mono ?_); rintro e w1 ⟨rfl, hb1⟩; have tb := tb.trans (hb1.mono tb.size); have b1 := cell_later hb1 b1)
      | (go_at_call 5; refine (HFA.out _).mono ?_; rintro e w' ⟨rfl, rfl⟩)
      | (go_at_call 5; refine (HFB.out _).mono ?_; rintro e w' ⟨rfl, rfl⟩))
    go_ret
    exact ⟨rfl, tb⟩
end Go.Proofs.YtlhmdooeffmedaaGreatDoor
