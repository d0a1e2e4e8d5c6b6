/- Walks: reference 09: Parse. -/
import Derived.Test.YthchklbnkojkgaaGreatDoorR09g
import Derived.Test.YthchklbnkojkgaaGreatDoorR09e
namespace Go.Proofs.YthchklbnkojkgaaGreatDoor
open Go.RowKit Pk Hd

theorem line_cut : ∀ (l : List UInt8) (n : Nat), lineN l ≤ n → lineN (l.take n) = lineN l
  | [], n, _ => by rw [List.take_nil]
  | c :: r, n, h => by
    by_cases hc : c = 10
    · subst hc
      rw [lineN_cons10] at h ⊢
      obtain ⟨m, rfl⟩ : ∃ m, n = m + 1 := ⟨n - 1, by omega⟩
      rw [List.take_succ_cons, lineN_cons10]
    · rw [lineN_cons hc] at h ⊢
      obtain ⟨m, rfl⟩ : ∃ m, n = m + 1 := ⟨n - 1, by omega⟩
      rw [List.take_succ_cons, lineN_cons hc, line_cut r m (by omega)]
def dat (l : List ByteArray) : List (List UInt8) := l.map (·.data.toList)
/-- the lines from the i-th on are the lines of what is left -/
def LeftAt (s : ByteArray) (ls : List ByteArray) (A i : Nat) : Prop := linesL (tl s A) = dat (ls.drop i)
theorem left_next {s : ByteArray} {ls : List ByteArray} {A i : Nat} (h : LeftAt s ls A i) (hi : i < ls.length) : A < s.size ∧ ls[i].data.toList = (tl s A).take (lineN (tl s A)) ∧ ls[i].size = lineN (tl s A) ∧ LeftAt s ls (A + ls[i].size) (i + 1) := by
  unfold LeftAt at *
  have hA : A < s.size := by
    by_cases h0 : A < s.size
    · exact h0
    · rw [tl_end s A (by omega), lines_nil] at h
      unfold dat at h
      have := congrArg List.length h
      rw [List.length_map, List.length_drop, List.length_nil] at this; omega
  rw [lines_cons (tl_ne hA), List.drop_eq_getElem_cons hi] at h
  unfold dat at h
  rw [List.map_cons] at h
  injection h with h1 h2
  have hz : ls[i].size = lineN (tl s A) := by
    rw [← dataL, ← h1, List.length_take, Nat.min_eq_left (lineN_le _)]
  exact ⟨hA, h1.symm, hz, by rw [hz, ← tl_add]; exact h2⟩
theorem left_end {s : ByteArray} {ls : List ByteArray} {A i : Nat} (h : LeftAt s ls A i) (hi : ¬ i < ls.length) : ¬ A < s.size := fun hA => by
  unfold LeftAt at h
  have e : ls.drop i = [] := List.drop_eq_nil_of_le (by omega)
  rw [lines_cons (tl_ne hA), e] at h
  exact absurd h (by simp [dat])
theorem left_goes {s : ByteArray} {ls : List ByteArray} {A i : Nat} (h : LeftAt s ls A i) (hi : i < ls.length) : ∃ h0 : 0 < ls[i].size, goesB (tl s A) = blk (ls[i][0]'h0) := by
  obtain ⟨hA, h1, h2, -⟩ := left_next h hi
  have hp := lineN_pos (tl_ne hA)
  refine ⟨by omega, ?_⟩
  obtain ⟨k, hk⟩ : ∃ k, lineN (tl s A) = k + 1 := ⟨_, (Nat.sub_add_cancel hp).symm⟩
  rw [hk, tl_cons s A hA, List.take_succ_cons, data_cons _ (by omega)] at h1
  injection h1 with h1 _
  rw [tl_cons s A hA, h1]; rfl
theorem left_nogo {s : ByteArray} {ls : List ByteArray} {A i : Nat} (h : LeftAt s ls A i) (hi : ¬ i < ls.length) : goesB (tl s A) = false := by
  rw [tl_end s A (by have := left_end h hi; omega)]; rfl
/-- the lines that go on, so far -/
def MoreAt (s : ByteArray) (ls : List ByteArray) (A L k : Nat) (M : ByteArray) : Prop := M.data.toList = (tl s (A + L)).take M.size ∧ HeadAt s A (L + M.size) ∧ LeftAt s ls (A + (L + M.size)) k ∧ A + (L + M.size) ≤ s.size
theorem more_step {s : ByteArray} {ls : List ByteArray} {A L k : Nat} {M : ByteArray} (h : MoreAt s ls A L k M) (hk : k < ls.length) (hg : goesB (tl s (A + (L + M.size))) = true) : MoreAt s ls A L (k + 1) (M ++ ls[k]) ∧ A + (L + (M.size + ls[k].size)) ≤ s.size := by
  obtain ⟨h1, h2, h3, h4⟩ := h
  obtain ⟨hA, e1, e2, e3⟩ := left_next h3 hk
  have hle := lineN_le (tl s (A + (L + M.size)))
  rw [tl_length] at hle
  have hz : (M ++ ls[k] : ByteArray).size = M.size + ls[k].size := app_size _ _
  refine ⟨⟨?_, ?_, ?_, ?_⟩, by omega⟩
  · rw [hz, ByteArray.data_append, Array.toList_append, List.take_add, ← h1, e1, tl_add, e2]
    rw [show A + L + M.size = A + (L + M.size) by omega]
  · rw [hz, ← Nat.add_assoc, e2]; exact head_go h2 hg
  · rw [hz, show A + (L + (M.size + ls[k].size)) = A + (L + M.size) + ls[k].size by omega]; exact e3
  · rw [hz]; omega
/-- what the loop over the lines keeps -/
def RefAt (s : ByteArray) (ls : List ByteArray) (A i : Nat) (acc : List Fld) : Prop := ParAt s A acc ∧ LeftAt s ls A i
theorem ref_empty {s : ByteArray} {ls : List ByteArray} {A i : Nat} {acc : List Fld} (h : RefAt s ls A i acc) (hi : i < ls.length) (he : bareL ls[i].data.toList = []) : acc = parS s.data.toList ∧ A + ls[i].size = endS s.data.toList := by
  obtain ⟨hA, e1, e2, -⟩ := left_next h.2 hi
  have := par_stop1 h.1 hA (by unfold emptyB; rw [← e1, he]; rfl)
  rw [e2]; exact this
theorem ref_begin {s : ByteArray} {ls : List ByteArray} {A i : Nat} {acc : List Fld} (h : RefAt s ls A i acc) (hi : i < ls.length) : MoreAt s ls A ls[i].size (i + 1) ⟨#[]⟩ := by
  obtain ⟨hA, e1, e2, e3⟩ := left_next h.2 hi
  have hle := lineN_le (tl s A)
  rw [tl_length] at hle
  have hz : (⟨#[]⟩ : ByteArray).size = 0 := rfl
  refine ⟨rfl, by rw [hz, Nat.add_zero, e2]; exact head_start s A, by rw [hz, Nat.add_zero]; exact e3, by rw [hz]; omega⟩
theorem ref_go {s : ByteArray} {ls : List ByteArray} {A i k : Nat} {acc : List Fld} {M : ByteArray} (h : RefAt s ls A i acc) (hi : i < ls.length) (he : bareL ls[i].data.toList ≠ []) (hm : MoreAt s ls A ls[i].size k M) (hg : goesB (tl s (A + (ls[i].size + M.size))) = false) :
    lineN (ls[i].data.toList ++ M.data.toList) = ls[i].size ∧ RefAt s ls (A + ls[i].size + M.size) k (acc ++ [fieldL (ls[i].data.toList ++ M.data.toList)]) := by
  obtain ⟨hA, e1, e2, e3⟩ := left_next h.2 hi
  obtain ⟨m1, m2, m3, m4⟩ := hm
  have hx := head_stop m2 hg
  have hd : ls[i].data.toList ++ M.data.toList = (tl s A).take (headN (tl s A)) := by
    rw [← hx, List.take_add, e1, m1, e2, tl_add]
  have hln : lineN (tl s A) ≤ headN (tl s A) := by unfold headN; omega
  refine ⟨by rw [hd, line_cut _ _ hln, e2], ?_, ?_⟩
  · have := par_go h.1 hA (by
      unfold emptyB
      rw [← e1]
      cases hb : bareL ls[i].data.toList with
      | nil => exact absurd hb he
      | cons a b => rfl)
    rw [hd, Nat.add_assoc, hx]; exact this
  · rw [Nat.add_assoc]; exact m3
theorem ref_end {s : ByteArray} {ls : List ByteArray} {A i : Nat} {acc : List Fld} (h : RefAt s ls A i acc) (hi : ¬ i < ls.length) : acc = parS s.data.toList ∧ A = endS s.data.toList := par_stop0 h.1 (left_end h.2 hi)
set_option maxHeartbeats 8000000 in
set_option maxRecDepth 100000 in
theorem rparse_any (s : ByteArray) (w : World) (hs : s.size ≤ 1000000) : Calls Tryz.prog 24 #[.string s] w (ParIs s w) := by
  have HLi := Lib.hid (fun w => rlines_any s w hs)
  have hBk := Lib.hid rblank_any
  go_enter Tryz.func24, Tryz.ntmps24
  go_wp2_with (go_at_call 14; (with_reducible refine (HLi.out _).mono ?_); rintro e w1 ⟨v1, ls, rfl, hown1, he1, hl1, hb1⟩; obtain ⟨p1, c1, rfl⟩ := own_shapeR hown1)
  have hst0 : Hid (RefAt s ls 0 0 []) := by
    show RefAt s ls 0 0 []
    refine ⟨⟨by rw [tl_zero]; rfl, by rw [tl_zero, Nat.zero_add]⟩, ?_⟩
    unfold LeftAt dat
    rw [tl_zero, List.drop_zero]; exact he1.symm
  clear he1
  go_loopw [5, 6, 7] (fun lv av iv wr => ∃ (A i : Nat) (acc : List Fld), av = .int .i64 A ∧ iv = .int .i64 i ∧ ownsG fldLay wr w1.heap.size 29 lv acc ∧ Below w1.heap.size w1 wr ∧ A ≤ s.size ∧ i ≤ ls.length ∧ acc.length ≤ A ∧ Hid (RefAt s ls A i acc)) (fun _ _ iv _ => ls.length - (intOf iv).toNat)
  case atStart => exact ⟨0, 0, [], by first | rfl | trivial, by first | rfl | trivial, ownsG.nil _ _ _ _, Below.refl _ _, by omega, by omega, by simp, hst0⟩
  case round =>
    clear hst0
    obtain ⟨A, i, acc, rfl, rfl, hown, hbel, hA, hi, hal, hrel⟩ := hrel
    have hz := hbel.size
    by_cases hlt : i < ls.length
    · obtain ⟨g1, cc1, hv1, -, hcc1, -, hcell⟩ := hown1.form.resolve_left (fun h => by rw [h.2] at hlt; simp at hlt)
      injection hv1 with hv1 _ hv2
      subst hv1 hv2
      have CE := Lib.hid (fun k hk => cell_later hbel (hcell k hk))
      have c0 := CE.out i hlt
      obtain ⟨hA1, e1, e2, -⟩ := left_next hrel.out.2 hlt
      have hLl := lineN_le (tl s A)
      rw [tl_length, ← e2] at hLl
      have hLp := lineN_pos (tl_ne hA1)
      rw [← e2] at hLp
      have hB := fun w => rbare_any ls[i] w (by omega)
      have hEm := fun he => ref_empty hrel.out hlt he
      have hBg := Lib.hid (ref_begin hrel.out hlt)
      have z0 : (0 : Int) ≤ (i : Int) := by omega
      have z1 : (i : Int) < (ls.length : Int) := by omega
      clear hcell e1 e2
      by_cases hne : bareL ls[i].data.toList = []
      · obtain ⟨q1, q2⟩ := hEm hne
        rw [hne] at hB
        have hB : ∀ w, Calls Tryz.prog 15 #[.string ls[i]] w fun e w' => e = .returned (.string ⟨#[]⟩) ∧ w = w' := hB
        have HB := Lib.hid hB
        have hpost : Hid (ParIs s w (.returned (.tuple #[u5, .int .i64 ((A : Int) + (ls[i].size : Int))])) wr) := ⟨_, by rw [← q2]; rfl, by rw [← q1]; exact ownsG.base hown hb1.size, hb1.trans (hbel.mono hb1.size)⟩
        generalize ls[i] = L at *
        clear hrel hown hEm hBg hB hne q1 q2
        go_wp2_with (go_at_call 15; (with_reducible refine (HB.out _).mono ?_); rintro e w1 ⟨rfl, rfl⟩)
        go_ret2
        exact hpost.out
      · have hBem : (toB (bareL ls[i].data.toList)).toList.isEmpty = false := by
          rw [Lib.toList_data, toB_data]
          cases hb : bareL ls[i].data.toList with
          | nil => exact absurd hb hne
          | cons a b => rfl
        generalize toB (bareL ls[i].data.toList) = B at hB hBem
        have HB := Lib.hid hB
        clear hB hEm
        go_wp2_with (go_at_call 15; (with_reducible refine (HB.out _).mono ?_); rintro e w1 ⟨rfl, rfl⟩)
        go_loop [8, 9] (fun mv kv => ∃ (k : Nat) (M : ByteArray), mv = .string M ∧ kv = .int .i64 k ∧ i + 1 ≤ k ∧ k ≤ ls.length ∧ Hid (MoreAt s ls A ls[i].size k M)) (fun _ kv => ls.length - (intOf kv).toNat)
        case atStart => exact ⟨i + 1, ⟨#[]⟩, by first | rfl | trivial, by first | rfl | trivial, by omega, by omega, hBg⟩
        case round =>
          clear hBg HB hBem
          obtain ⟨k, M, rfl, rfl, hk1, hk2, hh⟩ := hrel
          rename Hid (RefAt s ls A i acc) => hrel
          by_cases hkl : k < ls.length
          · have d0 := CE.out k hkl
            obtain ⟨hk0, hkg⟩ := left_goes hh.out.2.2.1 hkl
            have hbk := fun w => hBk.out (ls[k][0]'hk0) w
            have y0 : (0 : Int) ≤ (k : Int) := by omega
            have y1 : (k : Int) < (ls.length : Int) := by omega
            cases hg : blk (ls[k][0]'hk0) with
            | true =>
              rw [hg] at hkg hbk
              obtain ⟨n1, n2⟩ := more_step hh.out hkl hkg
              have HBL := Lib.hid hbk
              have hd := Lib.hid n1
              have hMK : M.size + ls[k].size ≤ 1000000 := by omega
              have g9 : (M ++ ls[k] : ByteArray).size = M.size + ls[k].size := app_size _ _
              generalize hq : (M ++ ls[k] : ByteArray) = Q at *
              clear hh n1 hkg hbk hg hrel
              go_wp2_with (go_at_call 19; (with_reducible refine (HBL.out _).mono ?_); rintro e w1 ⟨rfl, rfl⟩)
              go_round
              case rel => exact ⟨k + 1, Q, by first | rfl | trivial, by go_num, by omega, by omega, hd⟩
              case measure => simp [intOf]; omega
            | false =>
              rw [hg] at hkg hbk
              have HBL := Lib.hid hbk
              have hgo := hkg
              clear hbk hkg hg
              obtain ⟨r1, r2⟩ := ref_go hrel.out hlt hne hh.out hgo
              obtain ⟨-, -, -, m4⟩ := hh.out
              have hF := fun w => rfield_any ls[i] M w (by omega) r1
              have r2 := Lib.hid r2
              generalize fieldL (ls[i].data.toList ++ M.data.toList) = X at hF r2
              obtain ⟨x0, x1, x2, x3⟩ := X
              have HF := Lib.hid hF
              generalize ls[i] = L at *
              clear hF hh hgo hrel r1 hne
              go_wp2_with (first
                | (go_at_call 19; (with_reducible refine (HBL.out _).mono ?_); rintro e w1 ⟨rfl, rfl⟩)
                | (go_at_call 43; (with_reducible refine (HF.out _).mono ?_); rintro e w2 ⟨rfl, hb2⟩; have hown2 := ownsG.below hown hb2 (Nat.le_refl _); have hz2 := hb2.size; have tb := hbel.trans (hb2.mono hz))
                | (at_builtin; go_loud (refine append_g _ rfl (.tmp 67) (.tmp 74) fldT rfl w1.heap.size _ _ rfl (ownsG.alloc hown2 _) ⟨_, 0, none⟩ [⟨x0, x1, x2, x3⟩] 1 1 rfl rfl (cells_at _ _ (by simp) _ _) (by omega) (by omega) (by simp; omega) ?_; intro v6 w6 hown6 hg6; have hb6 := Below_grownG (tb.alloc (Nat.le_trans hz hz2) _) (ownsG.alloc hown2 _) hg6 (by simp; omega); clear hg6)))
              go_roundw
              case rel => exact ⟨A + L.size + M.size, k, _, by go_num, by go_num, hown6, hb6, by omega, by omega, by rw [List.length_append, List.length_singleton]; omega, r2⟩
              case measure => simp [intOf]; omega
          · have hgo := left_nogo hh.out.2.2.1 hkl
            have HBL := trivial
            obtain ⟨r1, r2⟩ := ref_go hrel.out hlt hne hh.out hgo
            obtain ⟨-, -, -, m4⟩ := hh.out
            have hF := fun w => rfield_any ls[i] M w (by omega) r1
            have r2 := Lib.hid r2
            generalize fieldL (ls[i].data.toList ++ M.data.toList) = X at hF r2
            obtain ⟨x0, x1, x2, x3⟩ := X
            have HF := Lib.hid hF
            generalize ls[i] = L at *
            clear hF hh hgo hrel r1 hne
            go_wp2_with (first
              | (go_at_call 19; (with_reducible refine (HBL.out _).mono ?_); rintro e w1 ⟨rfl, rfl⟩)
              | (go_at_call 43; (with_reducible refine (HF.out _).mono ?_); rintro e w2 ⟨rfl, hb2⟩; have hown2 := ownsG.below hown hb2 (Nat.le_refl _); have hz2 := hb2.size; have tb := hbel.trans (hb2.mono hz))
              | (at_builtin; go_loud (refine append_g _ rfl (.tmp 67) (.tmp 74) fldT rfl w1.heap.size _ _ rfl (ownsG.alloc hown2 _) ⟨_, 0, none⟩ [⟨x0, x1, x2, x3⟩] 1 1 rfl rfl (cells_at _ _ (by simp) _ _) (by omega) (by omega) (by simp; omega) ?_; intro v6 w6 hown6 hg6; have hb6 := Below_grownG (tb.alloc (Nat.le_trans hz hz2) _) (ownsG.alloc hown2 _) hg6 (by simp; omega); clear hg6)))
            go_roundw
            case rel => exact ⟨A + L.size + M.size, k, _, by go_num, by go_num, hown6, hb6, by omega, by omega, by rw [List.length_append, List.length_singleton]; omega, r2⟩
            case measure => simp [intOf]; omega
    · obtain ⟨q1, q2⟩ := ref_end hrel.out hlt
      have hpost : Hid (ParIs s w (.returned (.tuple #[u5, .int .i64 (A : Nat)])) wr) := ⟨_, by rw [← q2], by rw [← q1]; exact ownsG.base hown hb1.size, hb1.trans (hbel.mono hb1.size)⟩
      clear hrel hown q1 q2
      go_wp2
      go_ret2
      exact hpost.out
end Go.Proofs.YthchklbnkojkgaaGreatDoor
