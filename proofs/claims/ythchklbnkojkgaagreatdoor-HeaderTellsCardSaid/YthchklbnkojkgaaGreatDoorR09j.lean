/- Walks: reference 09: Join, All, Get. -/
import Derived.Test.YthchklbnkojkgaaGreatDoorR09f
import Derived.Test.YthchklbnkojkgaaGreatDoorSame9
import Derived.Test.YthchklbnkojkgaaGreatDoorRepX
namespace Go.Proofs.YthchklbnkojkgaaGreatDoor
open Go.RowKit Pk Hd

set_option maxHeartbeats 4000000 in
set_option maxRecDepth 100000 in
theorem rjoin_any (v : Value) (m : List Fld) (w : World) (hM : seesG fldLay w w.heap.size 29 v m) (hm : m.length ≤ 10000000) (hj : (joinL m).length ≤ 100000000) : Calls Tryz.prog 26 #[v] w fun e w' => e = .returned (.string (toB (joinL m))) ∧ Below w.heap.size w w' := by
  obtain ⟨p, c, rfl, hc, hM⟩ := hM.form
  have h0 : Hid ([] ++ joinL (m.drop 0) = joinL m) := rfl
  generalize joinL m = X at h0 hj ⊢
  have HM := Lib.hid hM
  clear hM
  go_enter Tryz.func26, Tryz.ntmps26
  go_wp2
  go_loopw [3, 4] (fun sv iv wr => ∃ (i : Nat) (S : ByteArray), sv = .string S ∧ iv = .int .i64 i ∧ i ≤ m.length ∧ Below w.heap.size w wr ∧ Hid (S.data.toList ++ joinL (m.drop i) = X)) (fun _ iv _ => m.length - (intOf iv).toNat)
  case atStart => exact ⟨0, ⟨#[]⟩, by first | rfl | trivial, by first | rfl | trivial, by omega, Below.refl _ _, h0⟩
  case round =>
    clear h0
    obtain ⟨i, S, rfl, rfl, hi, hbel, hrel⟩ := hrel
    by_cases hlt : i < m.length
    · rcases HM.out with rfl | ⟨g, rfl, hg, hM⟩
      · simp at hlt
      · obtain ⟨c0, c1, c2, c3⟩ := fld_cells (hM i hlt)
        have c2 := cell_later hbel c2
        obtain ⟨hd, hln⟩ := joinL_step hrel hlt
        have z0 : (0 : Int) ≤ (i : Int) := by omega
        have z1 : (i : Int) < (m.length : Int) := by omega
        generalize m[i].raw = x2 at c2 hd hln
        rw [dataL] at hln
        have g1 : (S ++ x2 : ByteArray).size = S.size + x2.size := app_size _ _
        have hd : Hid ((S ++ x2 : ByteArray).data.toList ++ joinL (m.drop (i + 1)) = X) := by
          rw [ByteArray.data_append, Array.toList_append]; exact hd
        generalize hq : (S ++ x2 : ByteArray) = Q at *
        clear hrel c0 c1 c3 hM
        go_wp2
        go_roundw
        case rel => exact ⟨i + 1, Q, by first | rfl | trivial, by go_num, by omega, hbel, hd⟩
        case measure => simp [intOf]; omega
    · have hX := joinL_end hrel hlt
      have hS : toB X = S := by rw [← hX, toB_back]
      clear hrel hX
      go_wp2
      go_ret
      exact ⟨by rw [hS]; rfl, hbel⟩
theorem strs_sliceG {w : World} {B : Nat} {e : TypeId} {v : Value} {l : List ByteArray} (h : ownsS w B e v l) (hl : 0 < l.length) : ∃ g c, v = .slice (some ⟨g, 0, none⟩) l.length c ∧ l.length ≤ c ∧ ∀ j (hj : j < l.length), w.cell? ⟨g, j, none⟩ = some (.string l[j]) := by
  rcases h.form with ⟨-, e0⟩ | ⟨g, c, hv, hg, hc, hcc, hcell⟩
  · rw [e0] at hl; simp at hl
  · exact ⟨g, c, hv, hc, hcell⟩
theorem rallV_step {m : List Fld} {i : Nat} (n : List UInt8) (h : i < m.length) : allV (m.take (i + 1)) n = if isNamed n m[i] = true then allV (m.take i) n ++ [toB (valueOf m[i])] else allV (m.take i) n := by
  unfold allV
  rw [List.take_succ_eq_append_getElem h, List.filter_append, List.map_append]
  by_cases hc : isNamed n m[i] = true
  · rw [if_pos hc, List.filter_cons, if_pos hc]; rfl
  · rw [if_neg hc, List.filter_cons, if_neg hc]; simp
theorem cells_at2 (w : World) (B : Nat) (hB : w.heap.size = B) (cs : List Value) (t : TypeId) : ∀ j u, cs[j]? = some u → (w.alloc (.cells cs.toArray t)).cell? ((⟨B, 0, none⟩ : Addr).add j) = some u := by
  subst hB; exact cells_new w cs t
set_option maxHeartbeats 8000000 in
set_option maxRecDepth 100000 in
theorem rall_any (v : Value) (m : List Fld) (s : ByteArray) (w : World) (hs : s.size ≤ 10000000) (hm : m.length ≤ 1000000) (hz : ∀ x ∈ m, x.name.size ≤ 1000000 ∧ x.value.size ≤ 1000000) (hM : seesG fldLay w w.heap.size 29 v m) :
    Calls Tryz.prog 30 #[v, .string s] w (TextsIs (allV m s.data.toList) w) := by
  obtain ⟨p, c, rfl, hc, hM⟩ := hM.form
  have HM := Lib.hid hM
  have HZ := Lib.hid hz
  have hsm := fun w => rsmall_any s w (by omega)
  have hall : allV (m.take m.length) s.data.toList = allV m s.data.toList := by rw [List.take_length]
  rw [← hall]
  clear hM hz hall
  go_enter Tryz.func30, Tryz.ntmps30
  go_wp2
  go_loopw [5, 6] (fun lv iv wr => ∃ i : Nat, iv = .int .i64 i ∧ ownsS wr w.heap.size 9 lv (allV (m.take i) s.data.toList) ∧ Below w.heap.size w wr ∧ i ≤ m.length) (fun _ iv _ => m.length - (intOf iv).toNat)
  case atStart => exact ⟨0, by first | rfl | trivial, ownsS.nil _ _ _, Below.refl _ _, by omega⟩
  case round =>
    obtain ⟨i, rfl, hown, hbel, hi⟩ := hrel
    have hsz := hbel.size
    by_cases hlt : i < m.length
    · rcases HM.out with rfl | ⟨g, rfl, hg, hM⟩
      · simp at hlt
      · obtain ⟨c0, c1, c2, c3⟩ := fld_cells (hM i hlt)
        have hst := rallV_step s.data.toList hlt
        have hal : (allV (m.take i) s.data.toList).length ≤ i := by
          have := allV_length (m.take i) s.data.toList
          rw [List.length_take] at this; omega
        obtain ⟨hn1, hn2⟩ := HZ.out _ (List.getElem_mem hlt)
        have z0 : (0 : Int) ≤ (i : Int) := by omega
        have z1 : (i : Int) < (m.length : Int) := by omega
        generalize m[i] = x at c0 c1 c2 c3 hst hn1 hn2
        obtain ⟨x0, x1, x2, x3⟩ := x
        have C0 : w.cell? ⟨g, i * 4, none⟩ = some (.string x0) := c0
        have C1 : w.cell? ⟨g, i * 4 + 1, none⟩ = some (.string x1) := c1
        have C3 : w.cell? ⟨g, i * 4 + 3, none⟩ = some (.bool x3) := c3
        have hn1 : x0.size ≤ 1000000 := hn1
        have hn2 : x1.size ≤ 1000000 := hn2
        have c0 := cell_later hbel C0
        have c1 := cell_later hbel C1
        have c3 := cell_later hbel C3
        clear c2 hM
        cases x3 with
        | true =>
          have hd : allV (m.take (i + 1)) s.data.toList = allV (m.take i) s.data.toList := by rw [hst, if_neg (by unfold isNamed; simp)]
          clear hst
          go_wp2
          go_roundw
          case rel => exact ⟨i + 1, by go_num, hd ▸ hown, hbel, by omega⟩
          case measure => simp [intOf]; omega
        | false =>
          have hSm1 := fun w => rsmall_any x0 w (by omega)
          have hSm2 := hsm
          by_cases he : smallL x0.data.toList = smallL s.data.toList
          · have hd : allV (m.take (i + 1)) s.data.toList = allV (m.take i) s.data.toList ++ [toB (valueOf ⟨x0, x1, x2, false⟩)] := by
              rw [hst, if_pos (by unfold isNamed; simp [he])]
            have hv : valueOf ⟨x0, x1, x2, false⟩ = trimB (unfoldL x1.data.toList) := rfl
            rw [hv] at hd
            have hU := fun w => runfold_any x1 w (by omega)
            have hul := unfold_le x1.data.toList
            rw [dataL] at hul
            obtain ⟨Y, hYe, hYd, hYs⟩ := arrE (unfoldL x1.data.toList)
            have hY2 : toB (unfoldL x1.data.toList) = Y := hYe.symm
            rw [hY2] at hU
            have hT := fun w => rtrim_any Y w (by omega)
            rw [hYd] at hT
            generalize toB (trimB (unfoldL x1.data.toList)) = V at hT hd
            rw [he] at hSm1
            generalize toB (smallL s.data.toList) = A at hSm1 hSm2
            have HSm1 := Lib.hid hSm1
            have HSm2 := Lib.hid hSm2
            have HU := Lib.hid hU
            have HT := Lib.hid hT
            clear hst hSm1 hSm2 hU hT he hYe hYd hYs hY2 hv hsm
            go_wp2_with (first
              | (go_at_call 23; (with_reducible refine (HSm1.out _).mono ?_); rintro e w1 ⟨rfl, hb1⟩; have hown := hown.below hb1 (Nat.le_refl _); have hbel := hbel.trans (hb1.mono hbel.size); have c1 := cell_later hbel C1)
              | (go_at_call 23; (with_reducible refine (HSm2.out _).mono ?_); rintro e w2 ⟨rfl, hb2⟩; have hown := hown.below hb2 (Nat.le_refl _); have hbel := hbel.trans (hb2.mono hbel.size); have c1 := cell_later hbel C1)
              | (go_at_call 28; (with_reducible refine (HU.out _).mono ?_); rintro e w3 ⟨rfl, hb3⟩; have hown := hown.below hb3 (Nat.le_refl _); have hbel := hbel.trans (hb3.mono hbel.size); have hbz := hbel.size)
              | (go_at_call 17; (with_reducible refine (HT.out _).mono ?_); rintro e w1 ⟨rfl, rfl⟩)
              | (at_builtin; go_loud (refine append_str _ rfl (.tmp 30) (.tmp 38) sslR rfl w.heap.size _ _ rfl (ownsS.alloc hown _) ⟨_, 0, none⟩ 1 1 [V] rfl rfl (cells_at2 _ _ (by simp) _ _) (by omega) (by simp; omega) ?_; intro v6 w6 hown6 hg6; have hb6 := Below_grownS (hbel.alloc hbz _) (ownsS.alloc hown _) hg6 (by simp; omega); clear hg6)))
            go_roundw
            case rel => exact ⟨i + 1, by go_num, hd ▸ hown6, hb6, by omega⟩
            case measure => simp [intOf]; omega
          · have hd : allV (m.take (i + 1)) s.data.toList = allV (m.take i) s.data.toList := by rw [hst, if_neg (by unfold isNamed; simpa using he)]
            have hAB : ((toB (smallL x0.data.toList)).toList == (toB (smallL s.data.toList)).toList) = false := by
              rw [Lib.toList_data, Lib.toList_data, toB_data, toB_data]
              exact beq_eq_false_iff_ne.2 he
            generalize toB (smallL x0.data.toList) = A at hSm1 hAB
            generalize toB (smallL s.data.toList) = B at hSm2 hAB
            have HSm1 := Lib.hid hSm1
            have HSm2 := Lib.hid hSm2
            clear hSm1 hSm2 hst he hsm
            go_wp2_with (first
              | (go_at_call 23; (with_reducible refine (HSm1.out _).mono ?_); rintro e w1 ⟨rfl, hb1⟩; have hown := hown.below hb1 (Nat.le_refl _); have hbel := hbel.trans (hb1.mono hbel.size))
              | (go_at_call 23; (with_reducible refine (HSm2.out _).mono ?_); rintro e w2 ⟨rfl, hb2⟩; have hown := hown.below hb2 (Nat.le_refl _); have hbel := hbel.trans (hb2.mono hbel.size)))
            go_roundw
            case rel => exact ⟨i + 1, by go_num, hd ▸ hown, hbel, by omega⟩
            case measure => simp [intOf]; omega
    · obtain rfl : i = m.length := by omega
      go_wp2
      go_ret
      exact ⟨_, rfl, hown, hbel⟩
set_option maxHeartbeats 2000000 in
set_option maxRecDepth 100000 in
theorem rget_any (v : Value) (m : List Fld) (s : ByteArray) (w : World) (hs : s.size ≤ 10000000) (hm : m.length ≤ 1000000) (hz : ∀ x ∈ m, x.name.size ≤ 1000000 ∧ x.value.size ≤ 1000000) (hM : seesG fldLay w w.heap.size 29 v m) :
    Calls Tryz.prog 25 #[v, .string s] w (GetIs (allV m s.data.toList) w) := by
  have hA := fun w hM => rall_any v m s w hs hm hz hM
  unfold TextsIs at hA
  have hA := hA w hM
  generalize allV m s.data.toList = xs at hA ⊢
  obtain ⟨p, c, rfl, -⟩ := hM.form
  have HA := Lib.hid hA
  clear hA hz
  go_enter Tryz.func25, Tryz.ntmps25
  cases xs with
  | nil =>
    go_wp2_with (go_at_call 30; (with_reducible refine HA.out.mono ?_); rintro e w1 ⟨v1, rfl, hown1, hb1⟩; obtain ⟨p1, c1, rfl⟩ := own_shapeR hown1)
    go_ret2
    exact ⟨rfl, hb1⟩
  | cons x xs =>
    have z0 : (0 : Int) < ((x :: xs).length : Int) := by rw [List.length_cons]; omega
    go_wp2_with (go_at_call 30; (with_reducible refine HA.out.mono ?_); rintro e w1 ⟨v1, rfl, hown1, hb1⟩; obtain ⟨g1, c1, rfl, hc1, hcell1⟩ := strs_sliceG hown1 (by simp); have k0 := hcell1 0 (by simp); have k0 : w1.cell? ⟨g1, 0, none⟩ = some (.string x) := k0)
    go_ret2
    exact ⟨rfl, hb1⟩
end Go.Proofs.YthchklbnkojkgaaGreatDoor
