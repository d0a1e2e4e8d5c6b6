/- Walks: header: Join, Parse. -/
import Derived.Test.YthchklbnkojkgaaGreatDoorHd2
namespace Go.Proofs.YthchklbnkojkgaaGreatDoor
open Go.RowKit Pk Hd

theorem fldT : GSl fldLay 56 Tryz.prog 25 29 :=
  GSl.of Tryz.underlying25 (by kernel_rfl)
theorem fld_cells {w : World} {g j : Nat} {m : List Fld} {hj : j < m.length} (h : ∀ i u, (fldLay.enc m[j])[i]? = some u → w.cell? ⟨g, j * fldLay.k + i, none⟩ = some u) :
    w.cell? ⟨g, j * 4, none⟩ = some (.string m[j].name) ∧ w.cell? ⟨g, j * 4 + 1, none⟩ = some (.string m[j].value) ∧ w.cell? ⟨g, j * 4 + 2, none⟩ = some (.string m[j].raw) ∧ w.cell? ⟨g, j * 4 + 3, none⟩ = some (.bool m[j].bad) :=
  ⟨h 0 _ rfl, h 1 _ rfl, h 2 _ rfl, h 3 _ rfl⟩
theorem heap_size_alloc_le (w : World) (o : Obj) : w.heap.size ≤ (w.alloc o).heap.size := by simp
theorem joinL_step {m : List Fld} {i : Nat} {acc X : List UInt8} (h : Hid (acc ++ joinL (m.drop i) = X)) (hi : i < m.length) : Hid (acc ++ m[i].raw.data.toList ++ joinL (m.drop (i + 1)) = X) ∧ acc.length + m[i].raw.size ≤ X.length := by
  have e := h.out
  rw [List.drop_eq_getElem_cons hi] at e
  have e2 : acc ++ m[i].raw.data.toList ++ joinL (m.drop (i + 1)) = X := by
    rw [← e]
    unfold joinL
    rw [List.flatMap_cons, List.append_assoc]
  refine ⟨e2, ?_⟩
  rw [← e2, List.length_append, List.length_append, dataL]; omega
theorem joinL_end {m : List Fld} {i : Nat} {acc X : List UInt8} (h : Hid (acc ++ joinL (m.drop i) = X)) (hi : ¬ i < m.length) : acc = X := by
  have e := h.out
  rw [List.drop_eq_nil_of_le (by omega)] at e
  simpa [joinL] using e
set_option maxHeartbeats 4000000 in
set_option maxRecDepth 100000 in
theorem join_any (v : Value) (m : List Fld) (w : World) (hM : seesG fldLay w w.heap.size 29 v m) (hm : m.length ≤ 10000000) (hj : (joinL m).length ≤ 100000000) : Calls Tryz.prog 21 #[v] w fun e w' => e = .returned (.string (toB (joinL m))) ∧ Below w.heap.size w w' := by
  obtain ⟨p, c, rfl, hc, hM⟩ := hM.form
  rcases hM with rfl | ⟨g, rfl, hg, hM⟩
  · go_enter Tryz.func21, Tryz.ntmps21
    go_wp2
    have hB0 := Bld.new w
    go_loopw [8] (fun iv wr => iv = .int .i64 0 ∧ Bld wr w.heap.size w.heap.size [] ∧ Below w.heap.size w wr) (fun iv _ => 0)
    case atStart => exact ⟨by first | rfl | trivial, hB0, (Below.refl _ _).alloc (Nat.le_refl _) _⟩
    case round =>
      obtain ⟨rfl, hB, hbel⟩ := hrel
      have hS := bstr w.heap.size w.heap.size [] wr hB hbel.size
      go_wp2_with (go_at_call 38; refine hS.mono ?_; rintro e w' ⟨rfl, -, hb3, -⟩)
      go_ret
      exact ⟨rfl, hbel.trans hb3⟩
  · have HM := Lib.hid hM
    have hz : Hid ([] ++ joinL (m.drop 0) = joinL m) := rfl
    generalize joinL m = X at hz hj ⊢
    clear hM
    have hB0 := Bld.new w
    have hb0 : Below w.heap.size w (w.alloc (.cells #[.pointer none, .slice none 0 0] 49)) := (Below.refl _ _).alloc (Nat.le_refl _) _
    go_enter Tryz.func21, Tryz.ntmps21
    go_wp2
    go_loopw [8] (fun iv wr => ∃ (i : Nat) (acc : List UInt8), iv = .int .i64 i ∧ Bld wr w.heap.size w.heap.size acc ∧ Below w.heap.size w wr ∧ i ≤ m.length ∧ Hid (acc ++ joinL (m.drop i) = X)) (fun iv _ => m.length - (intOf iv).toNat)
    case atStart => exact ⟨0, [], by first | rfl | trivial, hB0, hb0, by omega, hz⟩
    case round =>
      clear hz hb0 hB0
      obtain ⟨i, acc, rfl, hB, hbel, hi, hrel⟩ := hrel
      have hsz := hbel.size
      by_cases hlt : i < m.length
      · obtain ⟨hst, hln⟩ := joinL_step hrel hlt
        obtain ⟨c0, c1, c2, c3⟩ := fld_cells (HM.out i hlt)
        have c0 := cell_later hbel c0
        have c1 := cell_later hbel c1
        have c2 := cell_later hbel c2
        have c3 := cell_later hbel c3
        clear hrel
        have hB2 := hB.alloc (.cells #[.string m[i].name, .string m[i].value, .string m[i].raw, .bool m[i].bad] 29)
        have tb : Below w.heap.size w (wr.alloc (.cells #[.string m[i].name, .string m[i].value, .string m[i].raw, .bool m[i].bad] 29)) := hbel.alloc hsz _
        have hS := ws w.heap.size w.heap.size acc m[i].raw _ hB2 (by omega) (Nat.le_trans hsz (heap_size_alloc_le _ _))
        have HS := Lib.hid hS
        generalize m[i].name = x0 at *
        generalize m[i].value = x1 at *
        generalize m[i].raw = x2 at *
        generalize m[i].bad = x3 at *
        clear hS hB hB2
        go_wp2_with (go_at_call 36; (with_reducible refine HS.out.mono ?_); rintro e w2 ⟨rfl, hB2, hb2, -⟩)
        go_roundw
        case rel => exact ⟨i + 1, _, by go_num, hB2, tb.trans hb2, by omega, hst⟩
        case measure => simp [intOf]; omega
      · have hX := joinL_end hrel hlt
        have hS := bstr w.heap.size w.heap.size acc wr hB hsz
        rw [hX] at hS
        have HS := Lib.hid hS
        clear hS hrel hX hB
        go_wp2_with (go_at_call 38; refine HS.out.mono ?_; rintro e w' ⟨rfl, -, hb3, -⟩)
        go_ret
        exact ⟨rfl, hbel.trans hb3⟩
/-! Parse -/
def ParAt (s : ByteArray) (A : Nat) (acc : List Fld) : Prop := acc ++ parS (tl s A) = parS s.data.toList ∧ A + endS (tl s A) = endS s.data.toList
theorem tl_add (s : ByteArray) (a n : Nat) : (tl s a).drop n = tl s (a + n) := by unfold tl; rw [List.drop_drop]
theorem tl_ne {s : ByteArray} {A : Nat} (h : A < s.size) : tl s A ≠ [] := by rw [tl_cons s A h]; simp
theorem par_stop0 {s : ByteArray} {A : Nat} {acc : List Fld} (h : ParAt s A acc) (hA : ¬ A < s.size) : acc = parS s.data.toList ∧ A = endS s.data.toList := by
  obtain ⟨h1, h2⟩ := h
  rw [tl_end s A (by omega)] at h1 h2
  exact ⟨by rw [← h1]; simp [par_nil.1], by rw [← h2, par_nil.2]; rfl⟩
theorem par_stop1 {s : ByteArray} {A : Nat} {acc : List Fld} (h : ParAt s A acc) (hA : A < s.size) (he : emptyB (tl s A) = true) : acc = parS s.data.toList ∧ A + lineN (tl s A) = endS s.data.toList := by
  obtain ⟨h1, h2⟩ := h
  obtain ⟨p1, p2⟩ := par_empty (tl_ne hA) he
  rw [p1, List.append_nil] at h1
  rw [p2] at h2
  exact ⟨h1, h2⟩
theorem par_go {s : ByteArray} {A : Nat} {acc : List Fld} (h : ParAt s A acc) (hA : A < s.size) (he : emptyB (tl s A) = false) : ParAt s (A + headN (tl s A)) (acc ++ [fieldL ((tl s A).take (headN (tl s A)))]) := by
  obtain ⟨h1, h2⟩ := h
  obtain ⟨p1, p2⟩ := par_cons (tl_ne hA) he
  rw [p1, tl_add] at h1
  rw [p2, tl_add] at h2
  exact ⟨by rw [← h1]; simp, by rw [← h2]; omega⟩
theorem ext_mid (s : ByteArray) (a n : Nat) : (s.extract a (a + n)).data.toList = (tl s a).take n := by
  rw [Lib.extract_data]; unfold tl; congr 1; omega
def ParIs (s : ByteArray) (w : World) (e : Ending) (w' : World) : Prop := ∃ v, e = .returned (.tuple #[v, .int .i64 (endS s.data.toList : Nat)]) ∧ ownsG fldLay w' w.heap.size 29 v (parS s.data.toList) ∧ Below w.heap.size w w'
/-- how much of the text the field has, n bytes known -/
def HeadAt (s : ByteArray) (A n : Nat) : Prop := n + cont (tl s (A + n)) = headN (tl s A)
theorem head_start (s : ByteArray) (A : Nat) : HeadAt s A (lineN (tl s A)) := by unfold HeadAt headN; rw [tl_add]
theorem head_go {s : ByteArray} {A n : Nat} (h : HeadAt s A n) (hg : goesB (tl s (A + n)) = true) : HeadAt s A (n + lineN (tl s (A + n))) := by
  unfold HeadAt at *
  rw [cont_step hg, tl_add] at h
  rw [← h, Nat.add_assoc, Nat.add_assoc]
theorem head_stop {s : ByteArray} {A n : Nat} (h : HeadAt s A n) (hg : goesB (tl s (A + n)) = false) : n = headN (tl s A) := by
  unfold HeadAt at h
  rw [cont_stop hg] at h; omega
theorem cells_at (w : World) (B : Nat) (hB : w.heap.size = B) (cs : List Value) (t : TypeId) : ∀ j u, cs[j]? = some u → (w.alloc (.cells cs.toArray t)).cell? ((⟨B, 0, none⟩ : Addr).add j) = some u := by
  subst hB; exact cells_new w cs t
set_option maxHeartbeats 4000000 in
set_option maxRecDepth 100000 in
theorem parse_any (s : ByteArray) (w : World) (m : Int) (hm : w.cell? ⟨2, 0, none⟩ = some (.int .i64 m)) (hs : s.size ≤ 1000000) : Calls Tryz.prog 12 #[.string s] w (ParIs s w) := by
  have hst0 : Hid (ParAt s 0 []) := by
    show ParAt s 0 []
    exact ⟨by rw [tl_zero]; rfl, by rw [tl_zero, Nat.zero_add]⟩
  go_enter Tryz.func12, Tryz.ntmps12
  go_wp2
  go_loopw [4, 5, 6] (fun lv av _ wr => ∃ (A : Nat) (acc : List Fld), av = .int .i64 A ∧ ownsG fldLay wr w.heap.size 29 lv acc ∧ Below w.heap.size w wr ∧ A ≤ s.size ∧ acc.length ≤ A ∧ Hid (ParAt s A acc)) (fun _ av _ _ => s.size - (intOf av).toNat)
  case atStart => exact ⟨0, [], by first | rfl | trivial, ownsG.nil _ _ _ _, Below.refl _ _, by omega, by simp, hst0⟩
  case round =>
    clear hst0
    obtain ⟨A, acc, rfl, hown, hbel, hA, hal, hrel⟩ := hrel
    have hz := hbel.size
    by_cases hlt : A < s.size
    · have hne := tl_ne hlt
      have hLp := lineN_pos hne
      have hLl := lineN_le (tl s A)
      rw [tl_length] at hLl
      have hHl := headN_le (tl s A)
      rw [tl_length] at hHl
      have hP : (s.extract A s.size).data.toList = tl s A := ext_from s A
      have hPs := ext_size s A s.size
      generalize hPe : s.extract A s.size = P at hP hPs
      have hE := fun w => end_any P w (by omega)
      rw [hP] at hE
      have hQ := ext_mid s A (lineN (tl s A))
      have hQs := ext_size s A (A + lineN (tl s A))
      have hHS := head_start s A
      obtain ⟨L, hL⟩ : ∃ L, lineN (tl s A) = L := ⟨_, rfl⟩
      have hem : emptyB (tl s A) = (bareL ((tl s A).take L)).isEmpty := by rw [← hL]; rfl
      have hS1 := fun he => par_stop1 hrel.out hlt he
      have hS2 := fun he => par_go hrel.out hlt he
      rw [hL] at hE hQ hQs hHS hLp hLl hS1
      generalize hQe : s.extract A (A + L) = Q at hQ hQs
      have hB := fun w => bare_any Q w (by omega)
      rw [hQ] at hB
      obtain ⟨B, hBe, hBd, hBs⟩ := arrE (bareL ((tl s A).take L))
      have hB : ∀ w, Calls Tryz.prog 40 #[.string Q] w fun e w' => e = .returned (.string B) ∧ w = w' := by rw [hBe]; exact hB
      have hBem : B.toList.isEmpty = emptyB (tl s A) := by rw [Lib.toList_data, hBd, hem]
      have HE := Lib.hid hE
      have HB := Lib.hid hB
      have z1 : (A : Int) ≤ (s.size : Int) := by omega
      have z2 : (A : Int) ≤ (A : Int) + (L : Int) := by omega
      have z3 : (A : Int) + (L : Int) ≤ (s.size : Int) := by omega
      have z4 : ((A : Int) + (L : Int)).toNat = A + L := by omega
      cases he : emptyB (tl s A) with
      | true =>
        rw [he] at hBem
        obtain ⟨x1, x2⟩ := hS1 he
        have hpost : Hid (ParIs s w (.returned (.tuple #[u4, .int .i64 ((A : Int) + (L : Int))])) wr) := ⟨_, by rw [← x2]; rfl, by rw [← x1]; exact hown, hbel⟩
        clear hrel hown hS1 hS2 hE hB x1 x2 hBe hBd hBs hem hP hPs hQ hQs hHS hne he hm
        go_wp2_with (first
          | (go_at_call 39; (with_reducible refine (HE.out _).mono ?_); rintro e w1 ⟨rfl, rfl⟩)
          | (go_at_call 40; (with_reducible refine (HB.out _).mono ?_); rintro e w1 ⟨rfl, rfl⟩))
        go_ret2
        exact hpost.out
      | false =>
        rw [he] at hBem
        have hd := Lib.hid (hS2 he)
        clear hrel hS1 hS2 hE hB hBe hBd hBs hem hP hPs hQ hQs hne he
        go_wp2_with (first
          | (go_at_call 39; (with_reducible refine (HE.out _).mono ?_); rintro e w1 ⟨rfl, rfl⟩)
          | (go_at_call 40; (with_reducible refine (HB.out _).mono ?_); rintro e w1 ⟨rfl, rfl⟩))
        go_loop [6] (fun nv => ∃ n : Nat, nv = .int .i64 n ∧ A + n ≤ s.size ∧ 1 ≤ n ∧ Hid (HeadAt s A n)) (fun nv => s.size - (intOf nv).toNat)
        case atStart => exact ⟨L, by first | rfl | trivial, by omega, hLp, hHS⟩
        case round =>
          clear hHS HE HB
          obtain ⟨n, rfl, hn, hn1, hh⟩ := hrel
          have hV : (s.extract (A + n) s.size).data.toList = tl s (A + n) := ext_from s (A + n)
          have hVs := ext_size s (A + n) s.size
          generalize hVe : s.extract (A + n) s.size = V at hV hVs
          have hG := fun w => goes_any V w
          rw [hV] at hG
          have y3 : (A : Int) + (n : Int) ≤ (s.size : Int) := by omega
          have y2 : (A : Int) ≤ (A : Int) + (n : Int) := by omega
          have y0 : (0 : Int) ≤ (A : Int) + (n : Int) := by omega
          have y4 : ((A : Int) + (n : Int)).toNat = A + n := by omega
          cases hg : goesB (tl s (A + n)) with
          | true =>
            rw [hg] at hG
            have hE2 := fun w => end_any V w (by omega)
            rw [hV] at hE2
            have hd2 := Lib.hid (head_go hh.out hg)
            have hl2 := lineN_le (tl s (A + n))
            have hp2 := lineN_pos (goes_ne hg)
            rw [tl_length] at hl2
            generalize lineN (tl s (A + n)) = k at hE2 hd2 hl2 hp2
            have HG := Lib.hid hG
            have HE := Lib.hid hE2
            clear hG hE2 hh hV hVs hg
            go_wp2_with (first
              | (go_at_call 37; (with_reducible refine (HG.out _).mono ?_); rintro e w1 ⟨rfl, rfl⟩)
              | (go_at_call 39; (with_reducible refine (HE.out _).mono ?_); rintro e w1 ⟨rfl, rfl⟩))
            go_round
            case rel => exact ⟨n + k, by go_num, by omega, by omega, hd2⟩
            case measure => simp [intOf]; omega
          | false =>
            rw [hg] at hG
            have hx := head_stop hh.out hg
            have hK := ext_mid s A n
            have hKs := ext_size s A (A + n)
            generalize hKe : s.extract A (A + n) = K at hK hKs
            have hF := fun w1 (hb : Below w.heap.size w w1) => field_any K w1 m (cell_later hb hm) (by omega)
            rw [hK] at hF
            rw [← hx] at hd
            generalize fieldL ((tl s A).take n) = X at hF hd
            obtain ⟨x0, x1, x2, x3⟩ := X
            have HG := Lib.hid hG
            have HF := Lib.hid hF
            clear hG hF hh hV hVs hg hx hK hKs
            go_wp2_with (first
              | (go_at_call 37; (with_reducible refine (HG.out _).mono ?_); rintro e w1 ⟨rfl, rfl⟩)
              | (go_at_call 41; (with_reducible refine (HF.out _ hbel).mono ?_); rintro e w1 ⟨rfl, hb1⟩; have hown1 := ownsG.below hown hb1 (Nat.le_refl _); have hz1 := hb1.size; have tb := hbel.trans (hb1.mono hz))
              | (at_builtin; go_loud (refine append_g _ rfl (.tmp 41) (.tmp 49) fldT rfl w.heap.size _ _ rfl (ownsG.alloc hown1 _) ⟨_, 0, none⟩ [⟨x0, x1, x2, x3⟩] 1 1 rfl rfl (cells_at _ _ (by simp) _ _) (by omega) (by omega) (by simp; omega) ?_; intro v6 w6 hown6 hg6; have hb6 := Below_grownG (tb.alloc (Nat.le_trans hz hz1) _) (ownsG.alloc hown1 _) hg6 (by simp; omega); clear hg6)))
            go_roundw
            case rel => exact ⟨A + n, _, by go_num, hown6, hb6, by omega, by rw [List.length_append, List.length_singleton]; omega, hd⟩
            case measure => simp [intOf]; omega
    · obtain ⟨x1, x2⟩ := par_stop0 hrel.out hlt
      have hpost : Hid (ParIs s w (.returned (.tuple #[u4, .int .i64 (A : Nat)])) wr) := ⟨_, by rw [← x2], by rw [← x1]; exact hown, hbel⟩
      clear hrel hown x1 x2
      go_wp2
      go_ret2
      exact hpost.out
end Go.Proofs.YthchklbnkojkgaaGreatDoor
