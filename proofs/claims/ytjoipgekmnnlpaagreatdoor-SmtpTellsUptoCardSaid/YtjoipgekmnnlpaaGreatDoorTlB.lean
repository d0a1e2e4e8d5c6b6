/- Walks: the reference of layer 22: great, behind, path, may, the options. -/
import Derived.Test.YtjoipgekmnnlpaaGreatDoorTlA
import Derived.Test.YtjoipgekmnnlpaaGreatDoorTlRP
import Derived.Test.YtjoipgekmnnlpaaGreatDoorRfW
namespace Go.Proofs.YtjoipgekmnnlpaaGreatDoor
open Go.RowKit Go.Shelf Go.Lib Pk Hx C1 Sm

theorem tl_lengthB (s : ByteArray) (a : Nat) : (tl s a).length = s.size - a := by
  unfold tl
  rw [List.length_drop]
  rfl
theorem tl_takeB (s : ByteArray) (a n : Nat) (h : a + n ≤ s.size) : (s.extract a (a + n)).data.toList = (tl s a).take n := by
  unfold tl
  rw [ByteArray.data_extract, Array.toList_extract, List.extract_eq_take_drop]
  congr 1
  omega
theorem up_low {c : UInt8} (h1 : 97 ≤ c.toNat) (h2 : c.toNat ≤ 122) : b8 ((c.toNat : Int) - 32) = up c := by
  unfold up
  rw [if_pos ⟨h1, h2⟩]
  apply UInt8.toNat_inj.1
  have e := b8_toNat ((c.toNat : Int) - 32) (by omega) (by omega)
  have e2 : (c - 32).toNat = c.toNat - 32 := by
    rw [UInt8.toNat_sub_of_le _ _ (by rw [UInt8.le_iff_toNat_le]; show 32 ≤ c.toNat; omega)]
    rfl
  rw [e2]; omega
theorem up_not {c : UInt8} (h : ¬ (97 ≤ c.toNat ∧ c.toNat ≤ 122)) : up c = c := by unfold up; rw [if_neg h]
set_option maxHeartbeats 2000000 in
set_option maxRecDepth 100000 in
theorem rgreat_any (s : ByteArray) (w : World) (hs : s.size ≤ 1000000) : Calls Tryz.prog 75 #[.string s] w fun e w' => e = .returned (.string (bt (s.data.toList.map up))) ∧ Below w.heap.size w w' := by
  go_enter Tryz.func75, Tryz.ntmps75
  go_wp2
  go_loopw [3, 4] (fun ov iv wr => ∃ (k : Nat) (acc : List UInt8), iv = .int .i64 k ∧ ownsB wr w.heap.size 5 ov acc ∧ Below w.heap.size w wr ∧ k ≤ s.size ∧ acc.length ≤ k ∧ Hid (acc ++ (tl s k).map up = s.data.toList.map up)) (fun _ iv _ => s.size - (intOf iv).toNat)
  case atStart => exact ⟨0, [], by first | rfl | trivial, ownsB.nil _ _ _, Below.refl _ _, Nat.zero_le _, Nat.le_refl _, by rw [tl_zero]; rfl⟩
  case round =>
    obtain ⟨k, acc, rfl, hown, hbel, hk, hal, hst⟩ := hrel
    have hsz := hbel.size
    by_cases hlt : k < s.size
    · have hu := tl_cons s k hlt
      by_cases h1 : 97 ≤ s[k].toNat
      · by_cases h2 : s[k].toNat ≤ 122
        · have hb := s[k].toNat_lt
          have hw8 : IntKind.u8.wrap ((s[k].toNat : Int) - 32) = (s[k].toNat : Int) - 32 := w8 (by omega) (by omega)
          have hn : Hid ((acc ++ [b8 ((s[k].toNat : Int) - 32)]) ++ (tl s (k + 1)).map up = s.data.toList.map up) := by
            have h9 := hst.out
            rw [hu, List.map_cons, ← up_low h1 h2] at h9
            rw [List.append_assoc]; exact h9
          clear hst hu
          go_wp2_with (at_builtin; refine append_bytes _ rfl (.tmp 23) (.tmp 25) bslR rfl w.heap.size _ _ rfl (ownsB.alloc hown _) ⟨_, 0, none⟩ 1 1 [b8 ((s[k].toNat : Int) - 32)] rfl rfl (cells_byte _ _ _ (by omega) (by omega)) (by first | omega | (simp; done) | (simp; omega)) (by first | omega | (simp; done) | (simp; omega)) ?_; intro v1 w1 hown1 hg1; have hb1 := Below_grown (hbel.alloc hsz _) (ownsB.alloc hown _) hg1 (by first | omega | (simp; done) | (simp; omega)); clear hg1)
          go_roundw
          case rel => exact ⟨k + 1, _, by go_num, hown1, hb1, by omega, by simp; omega, hn⟩
          case measure => simp [intOf]; omega
        · have hq2 : decide ((s[k].toNat : Int) ≤ 122) = false := decide_eq_false (by omega)
          have hn : Hid ((acc ++ [s[k]]) ++ (tl s (k + 1)).map up = s.data.toList.map up) := by
            have h9 := hst.out
            rw [hu, List.map_cons, up_not (fun e => h2 e.2)] at h9
            rw [List.append_assoc]; exact h9
          clear hst hu h2
          go_wp2_with (at_builtin; refine append_bytes _ rfl (.tmp 23) (.tmp 25) bslR rfl w.heap.size _ _ rfl (ownsB.alloc hown _) ⟨_, 0, none⟩ 1 1 [s[k]] rfl rfl (cells_new _ _ _) (by first | omega | (simp; done) | (simp; omega)) (by first | omega | (simp; done) | (simp; omega)) ?_; intro v1 w1 hown1 hg1; have hb1 := Below_grown (hbel.alloc hsz _) (ownsB.alloc hown _) hg1 (by first | omega | (simp; done) | (simp; omega)); clear hg1)
          go_roundw
          case rel => exact ⟨k + 1, _, by go_num, hown1, hb1, by omega, by simp; omega, hn⟩
          case measure => simp [intOf]; omega
      · have hq1 : decide (97 ≤ (s[k].toNat : Int)) = false := decide_eq_false (by omega)
        have hn : Hid ((acc ++ [s[k]]) ++ (tl s (k + 1)).map up = s.data.toList.map up) := by
          have h9 := hst.out
          rw [hu, List.map_cons, up_not (fun e => h1 e.1)] at h9
          rw [List.append_assoc]; exact h9
        clear hst hu h1
        go_wp2_with (at_builtin; refine append_bytes _ rfl (.tmp 23) (.tmp 25) bslR rfl w.heap.size _ _ rfl (ownsB.alloc hown _) ⟨_, 0, none⟩ 1 1 [s[k]] rfl rfl (cells_new _ _ _) (by first | omega | (simp; done) | (simp; omega)) (by first | omega | (simp; done) | (simp; omega)) ?_; intro v1 w1 hown1 hg1; have hb1 := Below_grown (hbel.alloc hsz _) (ownsB.alloc hown _) hg1 (by first | omega | (simp; done) | (simp; omega)); clear hg1)
        go_roundw
        case rel => exact ⟨k + 1, _, by go_num, hown1, hb1, by omega, by simp; omega, hn⟩
        case measure => simp [intOf]; omega
    · have hX : Hid (bt acc = bt (s.data.toList.map up)) := by
        have h9 := hst.out
        rw [tl_end s k (by omega), List.map_nil, List.append_nil] at h9
        exact congrArg bt h9
      have hcv := run_string_owned (P := Tryz.prog) (ts := 9) bslR Tryz.underlying9 hown
      rw [show (⟨acc.toArray⟩ : ByteArray) = bt acc from rfl, hX.out] at hcv
      clear hst hown
      go_wp2
      go_ret
      exact ⟨rfl, hbel⟩
/-- what behind answers -/
def behV : Option (List UInt8) → Value
  | some x => .tuple #[.string (bt x), .bool true]
  | none => .tuple #[.string ⟨#[]⟩, .bool false]
theorem beginW_long {b l : List UInt8} (h : l.length < b.length) : beginW b l = none := by
  unfold beginW
  refine if_neg fun e => ?_
  have := congrArg List.length e
  rw [List.length_map, List.length_take] at this
  omega
set_option maxHeartbeats 2000000 in
set_option maxRecDepth 100000 in
theorem behind_any (s b : ByteArray) (w : World) (hs : s.size ≤ 1000000) (hb : b.size ≤ 1000) : Calls Tryz.prog 99 #[.string s, .string b] w fun e w' => e = .returned (behV (beginW b.data.toList s.data.toList)) ∧ Below w.heap.size w w' := by
  have hsl : s.data.toList.length = s.size := rfl
  have hbl : b.data.toList.length = b.size := rfl
  by_cases h : s.size < b.size
  · have hX := Lib.hid (beginW_long (b := b.data.toList) (l := s.data.toList) (by omega))
    have q1 : decide ((s.size : Int) < (b.size : Int)) = true := decide_eq_true (by omega)
    clear hsl hbl
    go_enter Tryz.func99, Tryz.ntmps99
    go_wp2
    go_ret2
    exact ⟨by rw [hX.out]; rfl, Below.refl _ _⟩
  · have q1 : decide ((s.size : Int) < (b.size : Int)) = false := decide_eq_false (by omega)
    have z2 : (0 : Int) ≤ (b.size : Int) := by omega
    have z3 : (b.size : Int) ≤ (s.size : Int) := by omega
    obtain ⟨X, hX⟩ : ∃ X, X = s.extract 0 b.size := ⟨_, rfl⟩
    have hXd : X.data.toList = s.data.toList.take b.size := by rw [hX, ext_to]
    have hXs : X.size ≤ 1000000 := by rw [hX, ByteArray.size_extract]; omega
    have hG := rgreat_any X w hXs
    obtain ⟨Y, hY, hYd, -⟩ := bt_ex (X.data.toList.map up)
    rw [← hY] at hG
    have HG := Lib.hid hG
    have e0 : beginW b.data.toList s.data.toList = if Y.data.toList = b.data.toList then some (s.data.toList.drop b.size) else none := by
      unfold beginW
      rw [hbl, hYd, hXd]
    by_cases hyb : Y.data.toList = b.data.toList
    · have q2 : (Y.toList == b.toList) = true := by rw [Lib.toList_data, Lib.toList_data, hyb]; exact beq_self_eq_true _
      have q3 : (!Y.toList == b.toList) = false := by rw [q2]; rfl
      have hR : Hid (.tuple #[.string (s.extract b.size s.size), .bool true] = behV (beginW b.data.toList s.data.toList)) := by
        rw [e0, if_pos hyb]
        have e5 : (s.extract b.size s.size).data.toList = s.data.toList.drop b.size := ext_from _ _
        rw [← e5]
        show Value.tuple #[.string (s.extract b.size s.size), .bool true] = .tuple #[.string (bt (s.extract b.size s.size).data.toList), .bool true]
        rw [bt_back]
      clear hsl hbl hG hY hYd hXd hXs e0 hyb h
      subst hX
      go_enter Tryz.func99, Tryz.ntmps99
      go_wp2_with (first
            | (go_at_call 75; refine (HG.out).mono ?_; rintro e w' ⟨rfl, hb1⟩))
      go_ret2
      exact ⟨by rw [← hR.out]; first | done | rfl, hb1⟩
    · have q2 : (Y.toList == b.toList) = false := by rw [Lib.toList_data, Lib.toList_data]; exact beq_eq_false_iff_ne.2 hyb
      have q3 : (!Y.toList == b.toList) = true := by rw [q2]; rfl
      have hR : Hid (.tuple #[.string ⟨#[]⟩, .bool false] = behV (beginW b.data.toList s.data.toList)) := by
        rw [e0, if_neg hyb]
        exact rfl
      clear hsl hbl hG hY hYd hXd hXs e0 hyb h
      subst hX
      go_enter Tryz.func99, Tryz.ntmps99
      go_wp2_with (first
            | (go_at_call 75; refine (HG.out).mono ?_; rintro e w' ⟨rfl, hb1⟩))
      go_ret2
      exact ⟨by rw [← hR.out]; first | done | rfl, hb1⟩
end Go.Proofs.YtjoipgekmnnlpaaGreatDoor
namespace Go.Proofs.YtjoipgekmnnlpaaGreatDoor
open Go.RowKit Go.Shelf Go.Lib Pk Hx C1 Sm

/-- what path answers -/
def pathV : Option (List UInt8 × List UInt8) → Value
  | some (a, y) => .tuple #[.string (bt a), .string (bt y), .bool true]
  | none => .tuple #[.string ⟨#[]⟩, .string ⟨#[]⟩, .bool false]
theorem pathW_head {c : UInt8} {l : List UInt8} (h : c ≠ 60) : pathW (c :: l) = none := by
  show (if c = 60 ∧ _ then _ else _) = _
  exact if_neg fun e => h e.1
/-- the path is read as far as k -/
def PaAt (s : ByteArray) (k : Nat) : Prop := (tl s 1).dropWhile okP = (tl s k).dropWhile okP ∧ (tl s 1).takeWhile okP = (tl s 1).take (k - 1) ++ (tl s k).takeWhile okP
theorem paAt_one (s : ByteArray) : PaAt s 1 := ⟨rfl, by simp⟩
theorem paAt_step {s : ByteArray} {k : Nat} (h : PaAt s k) (h1 : 1 ≤ k) (hk : k < s.size) : (okP s[k] = true → PaAt s (k + 1)) ∧ (okP s[k] = false → (tl s 1).dropWhile okP = tl s k ∧ (tl s 1).takeWhile okP = (tl s 1).take (k - 1)) := by
  obtain ⟨a, b⟩ := h
  have hc := tl_cons s k hk
  rw [hc, List.dropWhile_cons] at a
  rw [hc, List.takeWhile_cons] at b
  refine ⟨fun e => ?_, fun e => ?_⟩
  · rw [if_pos e] at a b
    refine ⟨a, ?_⟩
    rw [b]
    have ht : (tl s 1).take (k + 1 - 1) = (tl s 1).take (k - 1) ++ [s[k]] := by
      obtain ⟨j, rfl⟩ : ∃ j, k = j + 1 := ⟨k - 1, by omega⟩
      show (tl s 1).take (j + 1) = (tl s 1).take j ++ [s[j + 1]]
      have hq : (tl s 1)[j]? = some s[j + 1] := by
        unfold tl
        rw [List.getElem?_drop, Nat.add_comm 1 j, List.getElem?_eq_getElem (show j + 1 < s.data.toList.length from hk)]
        rfl
      rw [List.take_add_one, hq]
      rfl
    rw [ht, List.append_assoc]
    rfl
  · rw [e] at a b
    simp only [Bool.false_eq_true, if_false] at a b
    refine ⟨by rw [a, hc], by rw [b, List.append_nil]⟩
theorem paAt_end {s : ByteArray} {k : Nat} (h : PaAt s k) (hk : s.size ≤ k) : (tl s 1).dropWhile okP = [] := by
  rw [h.1, tl_end s k hk]; rfl
theorem okP_bytes (c : UInt8) : okP c = (decide (32 < c.toNat) && (decide (c.toNat < 127) && (decide (c.toNat ≠ 60) && decide (c.toNat ≠ 62)))) := by
  unfold okP okA
  have e1 : decide (c ≠ 60) = decide (c.toNat ≠ 60) := by
    rw [Bool.eq_iff_iff, decide_eq_true_iff, decide_eq_true_iff]
    exact ⟨fun h e => h (UInt8.toNat_inj.1 e), fun h e => h (by rw [e]; rfl)⟩
  have e2 : decide (c ≠ 62) = decide (c.toNat ≠ 62) := by
    rw [Bool.eq_iff_iff, decide_eq_true_iff, decide_eq_true_iff]
    exact ⟨fun h e => h (UInt8.toNat_inj.1 e), fun h e => h (by rw [e]; rfl)⟩
  rw [e1, e2, Bool.and_assoc, Bool.and_assoc]
theorem tl_one (s : ByteArray) (h : 0 < s.size) : s.data.toList = s[0] :: tl s 1 := by rw [← tl_zero s, tl_cons s 0 h]
set_option maxHeartbeats 4000000 in
set_option maxRecDepth 100000 in
theorem rpath_any (s : ByteArray) (w : World) (hs : s.size ≤ 1000000) : Calls Tryz.prog 100 #[.string s] w fun e w' => e = .returned (pathV (pathW s.data.toList)) ∧ Below w.heap.size w w' := by
  by_cases h0 : s.size = 0
  · have e1 : s.toList.isEmpty = true := by rw [Lib.toList_data, List.eq_nil_of_length_eq_zero (show s.data.toList.length = 0 from h0)]; rfl
    have e2 : (s.toList = []) = True := by rw [Lib.toList_data, List.eq_nil_of_length_eq_zero (show s.data.toList.length = 0 from h0)]; exact eq_true rfl
    have hX : Hid (pathV (pathW s.data.toList) = .tuple #[.string ⟨#[]⟩, .string ⟨#[]⟩, .bool false]) := by
      rw [List.eq_nil_of_length_eq_zero (show s.data.toList.length = 0 from h0)]; rfl
    clear h0
    go_enter Tryz.func100, Tryz.ntmps100
    go_wp2
    go_ret3
    exact ⟨by rw [hX.out]; first | done | rfl, by first | exact Below.refl _ _ | exact (Below.refl _ _).drew⟩
  · have hpos : 0 < s.size := by omega
    have hd := tl_one s hpos
    obtain ⟨e1, e2, -⟩ := str_litR (x := s) (fun e => h0 (by rw [e]; rfl))
    by_cases h60 : s[0] = 60
    · have q1 : ((s[0].toNat : Int) == 60) = true := by rw [h60]; rfl
      have q1' : ((s[0].toNat : Int) != 60) = false := by rw [h60]; rfl
      rw [h60] at hd
      have HD := Lib.hid hd
      clear hd h60 h0
      go_enter Tryz.func100, Tryz.ntmps100
      go_wp2
      go_loop [5] (fun iv => ∃ k : Nat, iv = .int .i64 k ∧ 1 ≤ k ∧ k ≤ s.size ∧ Hid (PaAt s k)) (fun iv => s.size - (intOf iv).toNat)
      case atStart => exact ⟨1, by first | rfl | trivial, Nat.le_refl _, by omega, paAt_one s⟩
      case round =>
        obtain ⟨k, rfl, hk1, hk, hrel⟩ := hrel
        by_cases hlt : k < s.size
        · obtain ⟨p1, p2⟩ := paAt_step hrel.out hk1 hlt
          have hb := okP_bytes s[k]
          have hr1 : ((k : Int) == (s.size : Int)) = false := beq_eq_false_iff_ne.2 (by omega)
          have hr2 : decide ((k : Int) < (s.size : Int)) = true := decide_eq_true (by omega)
          by_cases a1 : 32 < s[k].toNat
          · have r1 : decide ((32 : Int) < (s[k].toNat : Int)) = true := decide_eq_true (by omega)
            by_cases a2 : s[k].toNat < 127
            · have r2 : decide ((s[k].toNat : Int) < 127) = true := decide_eq_true (by omega)
              by_cases a3 : s[k].toNat = 60
              · have r3 : ((s[k].toNat : Int) != 60) = false := by rw [a3]; rfl
                have r4 : ((s[k].toNat : Int) != 62) = true := by rw [a3]; rfl
                have r5 : ((s[k].toNat : Int) == 62) = false := by rw [a3]; rfl
                have hok : okP s[k] = false := by rw [hb, a3]; decide
                have hne : s[k].toNat ≠ 62 := by omega
                clear a1 a2 a3
                have hX : Hid (pathV (pathW s.data.toList) = .tuple #[.string ⟨#[]⟩, .string ⟨#[]⟩, .bool false]) := by
                  rw [HD.out, pathW_span, (p2 hok).1, tl_cons s k hlt]
                  simp only
                  rw [if_neg (fun e => hne (by rw [e]; rfl))]
                  rfl
                clear p1 p2 hok hrel hb hne
                go_wp2
                go_ret3
                exact ⟨by rw [hX.out]; first | done | rfl, by first | exact Below.refl _ _ | exact (Below.refl _ _).drew⟩
              · have r3 : ((s[k].toNat : Int) != 60) = true := bne_iff_ne.2 (by omega)
                by_cases a4 : s[k].toNat = 62
                · have r4 : ((s[k].toNat : Int) != 62) = false := by rw [a4]; rfl
                  have r5 : ((s[k].toNat : Int) == 62) = true := by rw [a4]; rfl
                  have hok : okP s[k] = false := by rw [hb, a4]; decide
                  have z1 : (1 : Int) ≤ (k : Int) := by omega
                  have z2 : (k : Int) ≤ (s.size : Int) := by omega
                  have z3 : (k : Int) + 1 ≤ (s.size : Int) := by omega
                  have z4 : (0 : Int) ≤ (k : Int) + 1 := by omega
                  have z5 : IntKind.i64.wrap ((k : Int) + 1) = (k : Int) + 1 := w64 rfl (by omega) (by omega)
                  have z6 : ((k : Int) + 1).toNat = k + 1 := by omega
                  have hX : Hid (pathV (pathW s.data.toList) = .tuple #[.string (s.extract 1 k), .string (s.extract (k + 1) s.size), .bool true]) := by
                    rw [HD.out, pathW_span, (p2 hok).1, (p2 hok).2, tl_cons s k hlt]
                    simp only
                    rw [if_pos (UInt8.toNat_inj.1 a4)]
                    show Value.tuple #[.string (bt ((tl s 1).take (k - 1))), .string (bt (tl s (k + 1))), .bool true] = _
                    have x1 : bt ((tl s 1).take (k - 1)) = s.extract 1 k := by
                      have := tl_takeB s 1 (k - 1) (by omega)
                      rw [show 1 + (k - 1) = k by omega] at this
                      rw [← this, bt_back]
                    have x2 : bt (tl s (k + 1)) = s.extract (k + 1) s.size := by
                      have : (s.extract (k + 1) s.size).data.toList = tl s (k + 1) := ext_from s _
                      rw [← this, bt_back]
                    rw [x1, x2]
                  clear a1 a2 a3 a4 p1 p2 hok hrel hb
                  go_wp2_with fail
                  refine wp_region_heldO (fun _ => True) 10 (by kernel_rfl) rfl trivial (fun hHeld => ?_)
                  refine takeO (v := ?_) 0 rfl (by kernel_rfl) (by kernel_rfl) (by kernel_rfl) (by rfl) ?_ hHeld ?_
                  rotate_left
                  · intro w hSw
                    go_simp
                    first | done | with_reducible rfl
                  simp only [Act.put, List.setIfInBounds_toArray, List.set_cons_zero, List.set_cons_succ]
                  refine takeO (v := ?_) 1 rfl (by kernel_rfl) (by kernel_rfl) (by kernel_rfl) (by rfl) ?_ hHeld ?_
                  rotate_left
                  · intro w hSw
                    go_simp
                    first | done | with_reducible rfl
                  simp only [Act.put, List.setIfInBounds_toArray, List.set_cons_zero, List.set_cons_succ]
                  refine takeO (v := ?_) 2 rfl (by kernel_rfl) (by kernel_rfl) (by kernel_rfl) (by rfl) ?_ hHeld ?_
                  rotate_left
                  · intro w hSw
                    go_simp
                    first | done | with_reducible rfl
                  simp only [Act.put, List.setIfInBounds_toArray, List.set_cons_zero, List.set_cons_succ]
                  refine takeO (v := ?_) 3 rfl (by kernel_rfl) (by kernel_rfl) (by kernel_rfl) (by rfl) ?_ hHeld ?_
                  rotate_left
                  · intro w hSw
                    go_simp
                    first | done | with_reducible rfl
                  simp only [Act.put, List.setIfInBounds_toArray, List.set_cons_zero, List.set_cons_succ]
                  refine takeO (v := ?_) 4 rfl (by kernel_rfl) (by kernel_rfl) (by kernel_rfl) (by rfl) ?_ hHeld ?_
                  rotate_left
                  · intro w hSw
                    go_simp
                    first | done | with_reducible rfl
                  simp only [Act.put, List.setIfInBounds_toArray, List.set_cons_zero, List.set_cons_succ]
                  refine takeO (v := ?_) 5 rfl (by kernel_rfl) (by kernel_rfl) (by kernel_rfl) (by rfl) ?_ hHeld ?_
                  rotate_left
                  · intro w hSw
                    go_simp
                    first | done | with_reducible rfl
                  simp only [Act.put, List.setIfInBounds_toArray, List.set_cons_zero, List.set_cons_succ]
                  refine takeO (v := ?_) 6 rfl (by kernel_rfl) (by kernel_rfl) (by kernel_rfl) (by rfl) ?_ hHeld ?_
                  rotate_left
                  · intro w hSw
                    go_simp
                    first | done | with_reducible rfl
                  simp only [Act.put, List.setIfInBounds_toArray, List.set_cons_zero, List.set_cons_succ]
                  refine takeO (v := ?_) 7 rfl (by kernel_rfl) (by kernel_rfl) (by kernel_rfl) (by rfl) ?_ hHeld ?_
                  rotate_left
                  · intro w hSw
                    go_simp
                    first | done | with_reducible rfl
                  simp only [Act.put, List.setIfInBounds_toArray, List.set_cons_zero, List.set_cons_succ]
                  refine takeO (v := ?_) 8 rfl (by kernel_rfl) (by kernel_rfl) (by kernel_rfl) (by rfl) ?_ hHeld ?_
                  rotate_left
                  · intro w hSw
                    go_simp
                    first | done | with_reducible rfl
                  simp only [Act.put, List.setIfInBounds_toArray, List.set_cons_zero, List.set_cons_succ]
                  refine takeO (v := ?_) 9 rfl (by kernel_rfl) (by kernel_rfl) (by kernel_rfl) (by rfl) ?_ hHeld ?_
                  rotate_left
                  · intro w hSw
                    go_simp
                    first | done | with_reducible rfl
                  simp only [Act.put, List.setIfInBounds_toArray, List.set_cons_zero, List.set_cons_succ]
                  refine doneO (by kernel_rfl) ?_
                  go_wp2
                  go_ret3
                  exact ⟨by rw [hX.out]; first | done | rfl, by first | exact Below.refl _ _ | exact (Below.refl _ _).drew⟩
                · have r4 : ((s[k].toNat : Int) != 62) = true := bne_iff_ne.2 (by omega)
                  have hn := Lib.hid (p1 (by rw [hb]; simp; omega))
                  clear p1 p2 hrel hb
                  go_wp2
                  go_round
                  case rel => exact ⟨k + 1, by go_num, by omega, by omega, hn⟩
                  case measure => simp [intOf]; omega
            · have r2 : decide ((s[k].toNat : Int) < 127) = false := decide_eq_false (by omega)
              have r5 : ((s[k].toNat : Int) == 62) = false := beq_eq_false_iff_ne.2 (by omega)
              have r4 : ((s[k].toNat : Int) != 62) = true := bne_iff_ne.2 (by omega)
              have hok : okP s[k] = false := by rw [hb, decide_eq_false a2]; simp
              have hne : s[k].toNat ≠ 62 := by omega
              clear a1 a2
              have hX : Hid (pathV (pathW s.data.toList) = .tuple #[.string ⟨#[]⟩, .string ⟨#[]⟩, .bool false]) := by
                rw [HD.out, pathW_span, (p2 hok).1, tl_cons s k hlt]
                simp only
                rw [if_neg (fun e => hne (by rw [e]; rfl))]
                rfl
              clear p1 p2 hok hrel hb hne
              go_wp2
              go_ret3
              exact ⟨by rw [hX.out]; first | done | rfl, by first | exact Below.refl _ _ | exact (Below.refl _ _).drew⟩
          · have r1 : decide ((32 : Int) < (s[k].toNat : Int)) = false := decide_eq_false (by omega)
            have r5 : ((s[k].toNat : Int) == 62) = false := beq_eq_false_iff_ne.2 (by omega)
            have r4 : ((s[k].toNat : Int) != 62) = true := bne_iff_ne.2 (by omega)
            have hok : okP s[k] = false := by rw [hb, decide_eq_false a1]; rfl
            have hne : s[k].toNat ≠ 62 := by omega
            clear a1
            have hX : Hid (pathV (pathW s.data.toList) = .tuple #[.string ⟨#[]⟩, .string ⟨#[]⟩, .bool false]) := by
              rw [HD.out, pathW_span, (p2 hok).1, tl_cons s k hlt]
              simp only
              rw [if_neg (fun e => hne (by rw [e]; rfl))]
              rfl
            clear p1 p2 hok hrel hb hne
            go_wp2
            go_ret3
            exact ⟨by rw [hX.out]; first | done | rfl, by first | exact Below.refl _ _ | exact (Below.refl _ _).drew⟩
        · have hX : Hid (pathV (pathW s.data.toList) = .tuple #[.string ⟨#[]⟩, .string ⟨#[]⟩, .bool false]) := by
            rw [HD.out, pathW_span, paAt_end hrel.out (by omega)]; rfl
          have hr1 : ((k : Int) == (s.size : Int)) = true := beq_iff_eq.2 (by omega)
          have hr2 : decide ((k : Int) < (s.size : Int)) = false := decide_eq_false (by omega)
          clear hrel
          go_wp2
          go_ret3
          exact ⟨by rw [hX.out]; first | done | rfl, by first | exact Below.refl _ _ | exact (Below.refl _ _).drew⟩
    · have q1' : ((s[0].toNat : Int) != 60) = true := bne_iff_ne.2 (fun e => h60 (UInt8.toNat_inj.1 (by rw [show (60 : UInt8).toNat = 60 from rfl]; omega)))
      have hX : Hid (pathV (pathW s.data.toList) = .tuple #[.string ⟨#[]⟩, .string ⟨#[]⟩, .bool false]) := by
        rw [hd, pathW_head h60]; rfl
      clear hd h60 h0
      go_enter Tryz.func100, Tryz.ntmps100
      go_wp2
      go_ret3
      exact ⟨by rw [hX.out]; first | done | rfl, by first | exact Below.refl _ _ | exact (Below.refl _ _).drew⟩
/-- no at sign so far -/
def MyAt (a : ByteArray) (i : Nat) : Prop := ((a.data.toList.drop 1).dropLast).contains 64 = ((tl a i).dropLast).contains 64
set_option maxHeartbeats 1000000 in
set_option maxRecDepth 100000 in
theorem rmay_any (a : ByteArray) (w : World) (hs : a.size ≤ 1000000) : Calls Tryz.prog 102 #[.string a] w fun e w' => e = .returned (.bool (mayW a.data.toList)) ∧ w' = w := by
  have hal : a.data.toList.length = a.size := rfl
  obtain ⟨b, hb⟩ : ∃ b, mayW a.data.toList = b := ⟨_, rfl⟩
  rw [hb]
  have HB : Hid ((decide (a.size ≤ 254) && (a.data.toList.drop 1).dropLast.contains 64) = b) := by rw [← hb]; unfold mayW; rw [hal]; rfl
  clear hb hal
  go_enter Tryz.func102, Tryz.ntmps102
  go_wp2
  go_loop [3] (fun iv => ∃ k : Nat, iv = .int .i64 k ∧ 1 ≤ k ∧ k ≤ a.size + 1 ∧ Hid (MyAt a k)) (fun iv => a.size + 1 - (intOf iv).toNat)
  case atStart => exact ⟨1, by first | rfl | trivial, Nat.le_refl _, by omega, by unfold MyAt; rfl⟩
  case round =>
    obtain ⟨k, rfl, hk1, hk, hrel⟩ := hrel
    have z5 : IntKind.i64.wrap ((k : Int) + 1) = (k : Int) + 1 := w64 rfl (by omega) (by omega)
    by_cases hlt : k + 1 < a.size
    · have hl1 : k < a.size := by omega
      have r1 : decide ((k : Int) + 1 < (a.size : Int)) = true := decide_eq_true (by omega)
      have hr2 : (k : Int) < (a.size : Int) := by omega
      have hc := tl_cons a k hl1
      have hc2 := tl_cons a (k + 1) hlt
      have hdl : (tl a k).dropLast = a[k] :: (tl a (k + 1)).dropLast := by rw [hc, hc2]; rfl
      by_cases h64 : a[k] = 64
      · have q1 : ((a[k].toNat : Int) == 64) = true := by rw [h64]; rfl
        have hX : Hid (decide (a.size ≤ 254) = b) := by
          show decide (a.size ≤ 254) = b
          have h9 := hrel.out
          unfold MyAt at h9
          rw [← HB.out, h9, hdl, h64]
          simp
        by_cases hz : a.size ≤ 254
        · have q2 : decide ((a.size : Int) ≤ 254) = true := decide_eq_true (by omega)
          obtain rfl : b = true := by rw [← hX.out]; exact decide_eq_true hz
          clear hrel hc hc2 hdl h64 HB
          go_wp2
          go_ret
          exact ⟨rfl, rfl⟩
        · have q2 : decide ((a.size : Int) ≤ 254) = false := decide_eq_false (by omega)
          obtain rfl : b = false := by rw [← hX.out]; exact decide_eq_false hz
          clear hrel hc hc2 hdl h64 HB
          go_wp2
          go_ret
          exact ⟨rfl, rfl⟩
      · have q1 : ((a[k].toNat : Int) == 64) = false := beq_eq_false_iff_ne.2 (fun e => h64 (UInt8.toNat_inj.1 (by rw [show (64 : UInt8).toNat = 64 from rfl]; omega)))
        have hn : Hid (MyAt a (k + 1)) := by
          have h9 := hrel.out
          show ((a.data.toList.drop 1).dropLast).contains 64 = ((tl a (k + 1)).dropLast).contains 64
          unfold MyAt at h9
          rw [h9, hdl, List.contains_cons]
          have : ((64 : UInt8) == a[k]) = false := beq_eq_false_iff_ne.2 (fun e => h64 e.symm)
          rw [this, Bool.false_or]
        clear hrel hc hc2 hdl h64
        go_wp2
        go_round
        case rel => exact ⟨k + 1, by go_num, by omega, by omega, hn⟩
        case measure => simp [intOf]; omega
    · have r1 : decide ((k : Int) + 1 < (a.size : Int)) = false := decide_eq_false (by omega)
      obtain rfl : b = false := by
        have h9 := hrel.out
        unfold MyAt at h9
        rw [← HB.out, h9]
        have : (tl a k).dropLast = [] := List.eq_nil_of_length_eq_zero (by rw [List.length_dropLast, tl_lengthB]; omega)
        rw [this]
        simp
      clear hrel
      go_wp2
      go_ret
      exact ⟨rfl, rfl⟩
end Go.Proofs.YtjoipgekmnnlpaaGreatDoor
