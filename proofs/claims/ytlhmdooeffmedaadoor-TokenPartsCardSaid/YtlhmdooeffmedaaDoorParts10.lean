/- Walks: chapter 10's laws: same, TokenParts. -/
import Derived.Test.YtlhmdooeffmedaaDoorQuotes10
import Derived.Test.YtlhmdooeffmedaaDoorKitF
namespace Go.Proofs.YtlhmdooeffmedaaDoor
open Go.RowKit Pk Tk Su Fo Rp

set_option maxHeartbeats 4000000 in
set_option maxRecDepth 100000 in
theorem same_refl (va vb : Value) (m : List El) (w : World) (hA : seesE w w.heap.size 28 va m) (hB : seesE w w.heap.size 28 vb m) (hm : m.length ≤ 1000000) :
    Calls Tryd.prog 12 #[va, vb] w fun e w' => e = .returned (.bool true) ∧ Below w.heap.size w w' := by
  obtain ⟨pa, ca, rfl, hca, hA⟩ := hA.form
  obtain ⟨pb, cb, rfl, hcb, hB⟩ := hB.form
  rcases hA with rfl | ⟨ga, rfl, hga, hA⟩
  · clear hB
    go_enter Tryd.func12, Tryd.ntmps12
    go_wp2
    go_loopw [5] (fun iv wr => iv = .int .i64 0 ∧ wr = w) (fun iv _ => 0)
    case atStart => exact ⟨by first | rfl | trivial, rfl⟩
    case round =>
      obtain ⟨rfl, rfl⟩ := hrel
      go_wp2
      go_ret
      exact ⟨rfl, Below.refl _ _⟩
  · rcases hB with rfl | ⟨gb, rfl, hgb, hB⟩
    · clear hA
      go_enter Tryd.func12, Tryd.ntmps12
      go_wp2
      go_loopw [5] (fun iv wr => iv = .int .i64 0 ∧ wr = w) (fun iv _ => 0)
      case atStart => exact ⟨by first | rfl | trivial, rfl⟩
      case round =>
        obtain ⟨rfl, rfl⟩ := hrel
        go_wp2
        go_ret
        exact ⟨rfl, Below.refl _ _⟩
    · have HA := Lib.hid hA
      have HB := Lib.hid hB
      clear hA hB
      go_enter Tryd.func12, Tryd.ntmps12
      go_wp2
      go_loopw [5] (fun iv wr => ∃ i : Nat, iv = .int .i64 i ∧ i ≤ m.length ∧ Below w.heap.size w wr) (fun iv _ => m.length - (intOf iv).toNat)
      case atStart => exact ⟨0, by first | rfl | trivial, by omega, Below.refl _ _⟩
      case round =>
        obtain ⟨i, rfl, hi, hbel⟩ := hrel
        have hz := hbel.size
        by_cases hlt : i < m.length
        · obtain ⟨a0, a1⟩ := HA.out i hlt
          obtain ⟨b0, b1⟩ := HB.out i hlt
          have a0 := cell_later hbel a0
          have a1 := cell_later hbel a1
          have b0 := cell_later hbel b0
          have b1 := cell_later hbel b1
          generalize m[i].kind = k at *
          generalize m[i].text = T at *
          have z0 : (0 : Int) ≤ (i : Int) := by omega
          have z1 : (i : Int) < (m.length : Int) := by omega
          go_wp2
          go_quiet (fail)
          go_wp2
          go_roundw
          case rel => exact ⟨i + 1, by go_num, by omega, hbel.trans ((below_drew _ _).mono hz)⟩
          case measure => simp [intOf]; omega
        · go_wp2
          go_ret
          exact ⟨rfl, hbel⟩
theorem kind_last {m : List El} {x : El} (h : m.getLast? = some x) : 0 < m.length ∧ ∀ hj : m.length - 1 < m.length, m[m.length - 1] = x := by
  have hne : m ≠ [] := fun e => by rw [e] at h; cases h
  have hl : 0 < m.length := List.length_pos_iff.2 hne
  refine ⟨hl, fun hj => ?_⟩
  rw [List.getLast?_eq_getElem?, List.getElem?_eq_getElem hj] at h
  injection h
theorem data_app (a b : ByteArray) : (a ++ b).data.toList = a.data.toList ++ b.data.toList := by rw [ByteArray.data_append, Array.toList_append]
theorem LastIs.cell {m : List El} {k : Nat} {tx : ByteArray} {w : World} {g : Nat} (h : Hid (∀ hj : m.length - 1 < m.length, m[m.length - 1] = (⟨k, tx⟩ : El)))
    (hc : ∀ j (hj : j < m.length), w.cell? ⟨g, j * 2, none⟩ = some (.int .i64 m[j].kind) ∧ w.cell? ⟨g, j * 2 + 1, none⟩ = some (.string m[j].text)) (hp : 0 < m.length := by assumption) : w.cell? ⟨g, (m.length - 1) * 2, none⟩ = some (.int .i64 k) := by
  have hj : m.length - 1 < m.length := by omega
  rw [(hc _ hj).1, h.out hj]
set_option maxHeartbeats 8000000 in
set_option maxRecDepth 100000 in
theorem parts_of (hsm : SmallP) (a b : ByteArray) (w : World) (h : Rt w) : Calls Tryd.prog 5 #[.string a, .string b] w (Truth w) := by
  have hS := hsm w h
  have HS := Lib.hid hS
  have hFA := few10_any a
  have hFB := few10_any b
  by_cases hfa : a.size ≤ 400
  · by_cases hfb : b.size ≤ 400
    · rw [decide_eq_true hfa] at hFA
      rw [decide_eq_true hfb] at hFB
      have HFA := Lib.hid hFA
      have HFB := Lib.hid hFB
      have tb := Below.refl w.heap.size w
      have hscA := fun w' => scan_any a w' (by omega)
      have hlA := sc_length _ a.data.toList (Nat.le_refl _)
      rw [dataL] at hlA
      by_cases ha : a.size = 0
      · have hn := nilS ha
        have : a.data.toList = [] := List.eq_nil_of_length_eq_zero (show a.data.toList.length = 0 from ha)
        rw [this, sc_nil] at hscA
        have HA := Lib.hid hscA
        clear hscA hS hFA hFB hlA this h
        go_enter Tryd.func5, Tryd.ntmps5
        go_wp2_with (first
          | (go_at_call 6; (with_reducible refine HS.out.mono ?_); rintro e w1 ⟨rfl, hb1⟩; have tb := tb.trans hb1)
          | (go_at_call 7; refine (HFA.out _).mono ?_; rintro e w' ⟨rfl, rfl⟩)
          | (go_at_call 7; refine (HFB.out _).mono ?_; rintro e w' ⟨rfl, rfl⟩)
          | (go_at_call 8; (with_reducible refine (HA.out _).mono ?_); rintro e w3 ⟨v3, rfl, hown3, hb3⟩; have tb := tb.trans (hb3.mono tb.size); have hs3 := ownsE.sees hown3 (Nat.le_refl _); obtain ⟨p3, c3, rfl, hc3, hM3⟩ := hs3.form))
        go_ret
        exact ⟨rfl, tb⟩
      · have hne : a.data.toList ≠ [] := fun e => ha (by have := dataL a; rw [e] at this; exact this.symm)
        have hmne : sc a.data.toList ≠ [] := by rw [sc_cons hne]; simp
        obtain ⟨x, hx⟩ : ∃ x, (sc a.data.toList).getLast? = some x := by
          cases h9 : (sc a.data.toList).getLast? with
          | none => exact absurd (List.getLast?_eq_none_iff.1 h9) hmne
          | some x => exact ⟨x, rfl⟩
        have hparts := sc_parts _ a.data.toList b.data.toList (Nat.le_refl _) x hx
        obtain ⟨hpos, hlast⟩ := kind_last hx
        have hscB := fun w' => scan_any b w' (by omega)
        have hlB := sc_length _ b.data.toList (Nat.le_refl _)
        rw [dataL] at hlB
        have hscAB := fun w' => scan_any (a ++ b) w' (by rw [ByteArray.size_append]; omega)
        rw [data_app] at hscAB
        have hab : (a ++ b : ByteArray).size = a.size + b.size := ByteArray.size_append
        generalize sc (a.data.toList ++ b.data.toList) = mab at *
        generalize sc a.data.toList = m at *
        generalize sc b.data.toList = mb at *
        have HSA := Lib.hid hscA
        have HSB := Lib.hid hscB
        have HSAB := Lib.hid hscAB
        have HP := Lib.hid hparts
        have HL := Lib.hid hlast
        clear hscA hscB hscAB hparts hlast hS hFA hFB h hne hmne hx
        obtain ⟨kx, tx⟩ := x
        have z3 : ((m.length : Int) - 1).toNat = m.length - 1 := by omega
        have qm : ((m.length : Int) == 0) = false := beq_eq_false_iff_ne.2 (by omega)
        have z4 : (0 : Int) ≤ (m.length : Int) - 1 := by omega
        have z5 : (m.length : Int) - 1 < (m.length : Int) := by omega
        have z6 : m.length - 1 < m.length := by omega
        by_cases hk : kx ≠ 1 ∧ kx ≠ 6 ∧ kx ≠ 7
        · obtain ⟨k1, k6, k7⟩ := hk
          have hAB := HSAB.out
          rw [HP.out k1 k6 k7] at hAB
          have HAB := Lib.hid hAB
          have q1 : ((kx : Int) == 1) = false := beq_eq_false_iff_ne.2 (by omega)
          have q6 : ((kx : Int) == 6) = false := beq_eq_false_iff_ne.2 (by omega)
          have q7 : ((kx : Int) == 7) = false := beq_eq_false_iff_ne.2 (by omega)
          have hml : (m ++ mb).length ≤ 1000000 := by rw [List.length_append]; omega
          clear hAB
          go_enter Tryd.func5, Tryd.ntmps5
          go_wp2_with (first
            | (go_at_call 6; (with_reducible refine HS.out.mono ?_); rintro e w1 ⟨rfl, hb1⟩; have tb := tb.trans hb1)
            | (go_at_call 7; refine (HFA.out _).mono ?_; rintro e w' ⟨rfl, rfl⟩)
            | (go_at_call 7; refine (HFB.out _).mono ?_; rintro e w' ⟨rfl, rfl⟩)
            | (go_at_call 8; (with_reducible refine (HSA.out _).mono ?_); rintro e w3 ⟨v3, rfl, hown3, hb3⟩; have tb := tb.trans (hb3.mono tb.size); obtain ⟨g3, c3, rfl, hc3, hg3, hcell3⟩ := sees_slice (ownsE.sees hown3 (Nat.le_refl _)) m.length rfl hpos; have d0 := LastIs.cell HL hcell3; clear hcell3)
            | (go_at_call 8; (with_reducible refine (HSB.out _).mono ?_); rintro e w4 ⟨v4, rfl, hown4, hb4⟩; have tb := tb.trans (hb4.mono tb.size); have hown3 := ownsE.below hown3 hb4 (Nat.le_refl _))
            | (at_builtin; refine append_els _ rfl (.tmp 50) (.tmp 51) elT rfl w4.heap.size _ _ rfl (ownsE.new w4 _) _ _ _ rfl (ownsE.alloc hown3 _) (by simp; omega) (heap_size_alloc_le _ _) ?_; intro v5 w5 hown5 hg5; have hb5 := Below_grownE ((Below.refl w4.heap.size w4).alloc (Nat.le_refl _) _) (ownsE.new w4 _) hg5 (heap_size_alloc_le _ _); have hown4 := ownsE.below hown4 hb5 (Nat.le_refl _); clear hg5)
            | (at_builtin; refine append_els _ rfl (.tmp 52) (.tmp 53) elT rfl w4.heap.size _ _ rfl hown5 _ _ _ rfl hown4 (by simp; omega) hb5.size ?_; intro v6 w6 hown6 hg6; have hb6 := Below_grownE hb5 hown5 hg6 hb5.size; have tb := tb.trans (hb6.mono tb.size); have hs6 := ownsE.sees hown6 (Nat.le_refl _); clear hg6)
            | (go_at_call 8; (with_reducible refine (HAB.out _).mono ?_); rintro e w7 ⟨v7, rfl, hown7, hb7⟩; have tb := tb.trans (hb7.mono tb.size); have hs7 := ownsE.sees hown7 (Nat.le_refl _); have hs6 := sees_later hs6 hb7)
            | (go_at_call 12; (with_reducible refine (same_refl _ _ _ _ hs7 hs6 hml).mono ?_); rintro e w8 ⟨rfl, hb8⟩; have tb := tb.trans (hb8.mono tb.size)))
          go_ret
          exact ⟨rfl, tb⟩
        · have hk3 : kx = 6 ∨ kx = 1 ∨ kx = 7 := by omega
          clear hk HP HSAB HSB
          rcases hk3 with rfl | rfl | rfl
          all_goals
            go_enter Tryd.func5, Tryd.ntmps5
            go_wp2_with (first
              | (go_at_call 6; (with_reducible refine HS.out.mono ?_); rintro e w1 ⟨rfl, hb1⟩; have tb := tb.trans hb1)
              | (go_at_call 7; refine (HFA.out _).mono ?_; rintro e w' ⟨rfl, rfl⟩)
              | (go_at_call 7; refine (HFB.out _).mono ?_; rintro e w' ⟨rfl, rfl⟩)
              | (go_at_call 8; (with_reducible refine (HSA.out _).mono ?_); rintro e w3 ⟨v3, rfl, hown3, hb3⟩; have tb := tb.trans (hb3.mono tb.size); obtain ⟨g3, c3, rfl, hc3, hg3, hcell3⟩ := sees_slice (ownsE.sees hown3 (Nat.le_refl _)) m.length rfl hpos; have d0 := LastIs.cell HL hcell3; clear hcell3))
            go_ret
            exact ⟨rfl, tb⟩
    · rw [decide_eq_true hfa] at hFA
      rw [decide_eq_false hfb] at hFB
      have HFA := Lib.hid hFA
      have HFB := Lib.hid hFB
      clear hS hFA hFB h hfa hfb
      go_enter Tryd.func5, Tryd.ntmps5
      go_wp2_with (first
        | (go_at_call 6; (with_reducible refine HS.out.mono ?_); rintro e w1 ⟨rfl, hb1⟩)
        | (go_at_call 7; refine (HFA.out _).mono ?_; rintro e w' ⟨rfl, rfl⟩)
        | (go_at_call 7; refine (HFB.out _).mono ?_; rintro e w' ⟨rfl, rfl⟩))
      go_ret
      exact ⟨rfl, hb1⟩
  · rw [decide_eq_false hfa] at hFA
    have HFA := Lib.hid hFA
    have HFB := Lib.hid hFB
    clear hS hFA hFB h hfa
    go_enter Tryd.func5, Tryd.ntmps5
    go_wp2_with (first
      | (go_at_call 6; (with_reducible refine HS.out.mono ?_); rintro e w1 ⟨rfl, hb1⟩)
      | (go_at_call 7; refine (HFA.out _).mono ?_; rintro e w' ⟨rfl, rfl⟩)
      | (go_at_call 7; refine (HFB.out _).mono ?_; rintro e w' ⟨rfl, rfl⟩))
    go_ret
    exact ⟨rfl, hb1⟩
end Go.Proofs.YtlhmdooeffmedaaDoor
