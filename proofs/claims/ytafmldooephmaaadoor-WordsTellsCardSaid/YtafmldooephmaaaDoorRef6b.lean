/- Walks: the reference of layer 6: Value, UnB64. -/
import Derived.Test.YtafmldooephmaaaDoorRef6
import Derived.Deep.RegionHeld3
import Derived.Deep.DeepCutAuto
import Derived.Deep.CutBlock
namespace Go.Proofs.YtafmldooephmaaaDoor
open Go.RowKit Pk C6 Hx

theorem isl : IntSl Tryd.prog 42 3 where
  ht := Tryd.underlying42
  hi := info_parts (show (Tryd.prog.info? 3).map (fun i => (i.zero, i.size, i.bytes)) = some (some (.int .i64 0), 1, 8) by kernel_rfl)

theorem ret_i64 {a b : Int} (h : a = b) : Ending.returned (.int .i64 a) = .returned (.int .i64 b) := by rw [h]

theorem valF_hit {c : UInt8} {k : Nat} (hk : k < 64) (h : Hid (valF c (64 - k) k = valR c)) (hd : dig (k : Int) = c) : valR c = k := by
  have e := h.out
  rw [show 64 - k = (63 - k) + 1 by omega, valF, if_pos hd] at e
  exact e.symm
theorem valF_miss {c : UInt8} {k : Nat} (hk : k < 64) (h : Hid (valF c (64 - k) k = valR c)) (hd : ¬ dig (k : Int) = c) : Hid (valF c (64 - (k + 1)) (k + 1) = valR c) := by
  have e := h.out
  rw [show 64 - k = (64 - (k + 1)) + 1 by omega, valF, if_neg hd] at e
  exact e
theorem valF_end {c : UInt8} {k : Nat} (hk : ¬ k < 64) (h : Hid (valF c (64 - k) k = valR c)) : valR c = -1 := by
  have e := h.out
  rw [show 64 - k = 0 by omega, valF] at e
  exact e.symm
theorem value_any (c : UInt8) (w : World) :
    Calls Tryd.prog 70 #[.int .u8 c.toNat] w fun e w' => e = .returned (.int .i64 (valR c)) ∧ w = w' := by
  go_enter Tryd.func70, Tryd.ntmps70
  go_wp2
  go_loop [3] (fun i => ∃ k : Nat, k ≤ 64 ∧ i = .int .i64 k ∧ Hid (valF c (64 - k) k = valR c)) (fun i => 64 - (intOf i).toNat)
  case atStart => exact ⟨0, by omega, rfl, rfl⟩
  case round =>
    obtain ⟨k, hk, rfl, hrel⟩ := hrel
    by_cases hlt : k < 64
    · by_cases hd : dig (k : Int) = c
      · have hq : (((dig (k : Int)).toNat : Int) == (c.toNat : Int)) = true := by rw [u8_beq]; simp [hd]
        have Hd := Lib.hid hd
        clear hd
        go_wp2_with (go_at_call 87; refine (digit_any _ _ (by omega) (by omega)).mono ?_; rintro e w' ⟨rfl, rfl⟩)
        go_ret
        exact ⟨ret_i64 (valF_hit hlt hrel Hd.out).symm, rfl⟩
      · have hq : (((dig (k : Int)).toNat : Int) == (c.toNat : Int)) = false := by rw [u8_beq]; simp [hd]
        have Hd := Lib.hid hd
        clear hd
        go_wp2_with (go_at_call 87; refine (digit_any _ _ (by omega) (by omega)).mono ?_; rintro e w' ⟨rfl, rfl⟩)
        go_round
        case rel => exact ⟨k + 1, by omega, by go_num, valF_miss hlt hrel Hd.out⟩
        case measure => simp [intOf]; omega
    · go_wp2_with fail
      go_ret
      exact ⟨ret_i64 (valF_end hlt hrel).symm, rfl⟩

theorem dR_put {s : ByteArray} {k : Nat} {acc X : List Int} (h : Hid (acc ++ dR (tl s k) = X)) (h0 : k < s.size) (h1 : ¬ s[k] = 61) (h2 : 0 ≤ valR s[k]) : Hid (acc ++ [valR s[k]] ++ dR (tl s (k + 1)) = X) := by
  have e := h.out
  rw [tl_cons s k h0, dR, if_neg h1, if_pos h2] at e
  show _ = _
  rw [← e]; simp
theorem dR_skip {s : ByteArray} {k : Nat} {acc X : List Int} (h : Hid (acc ++ dR (tl s k) = X)) (h0 : k < s.size) (h1 : ¬ s[k] = 61) (h2 : valR s[k] < 0) : Hid (acc ++ dR (tl s (k + 1)) = X) := by
  have e := h.out
  rw [tl_cons s k h0, dR, if_neg h1, if_neg (by omega)] at e
  exact e
theorem dR_stop {s : ByteArray} {k : Nat} {acc : List Int} (h : Hid (acc ++ dR (tl s k) = dR (tl s 0))) (h0 : k < s.size) (h1 : s[k] = 61) : acc = dR s.data.toList := by
  have e := h.out
  rw [tl_cons s k h0, dR, if_pos h1, tl_zero] at e
  simpa using e
theorem dR_end {s : ByteArray} {k : Nat} {acc : List Int} (h : Hid (acc ++ dR (tl s k) = dR (tl s 0))) (h0 : ¬ k < s.size) : acc = dR s.data.toList := by
  have e := h.out
  rw [tl_end s k (by omega), tl_zero] at e
  simpa [dR] using e

theorem drop2 (D : List Int) (j : Nat) (h : j + 1 < D.length) : D.drop j = D[j] :: D[j + 1] :: D.drop (j + 2) := by
  rw [List.drop_eq_getElem_cons (by omega), List.drop_eq_getElem_cons h]
theorem drop3 (D : List Int) (j : Nat) (h : j + 2 < D.length) : D.drop (j + 2) = D[j + 2] :: D.drop (j + 3) := List.drop_eq_getElem_cons h
theorem drop4 (D : List Int) (j : Nat) (h : j + 3 < D.length) : D.drop (j + 3) = D[j + 3] :: D.drop (j + 4) := List.drop_eq_getElem_cons h

theorem du_4 {acc : List Int} {out X : List UInt8} {j : Nat} {A B C D : Int} (h : Hid (out ++ duR (acc.drop j) = X)) (h1 : acc.drop j = A :: B :: acc.drop (j + 2)) (h2 : acc.drop (j + 2) = C :: acc.drop (j + 3)) (h3 : acc.drop (j + 3) = D :: acc.drop (j + 4)) :
    Hid (out ++ [b8 (A * 4 + B / 16)] ++ [b8 (B % 16 * 16 + C / 4)] ++ [b8 (C % 4 * 64 + D)] ++ duR (acc.drop (j + 4)) = X) := by
  have e := h.out
  rw [h1, h2, h3, duR] at e
  show _ = _
  rw [← e]; simp
theorem du_3 {acc : List Int} {out X : List UInt8} {j : Nat} {A B C : Int} (h : Hid (out ++ duR (acc.drop j) = X)) (h1 : acc.drop j = A :: B :: acc.drop (j + 2)) (h2 : acc.drop (j + 2) = C :: acc.drop (j + 3)) (h3 : ¬ j + 3 < acc.length) :
    Hid (out ++ [b8 (A * 4 + B / 16)] ++ [b8 (B % 16 * 16 + C / 4)] ++ duR (acc.drop (j + 4)) = X) := by
  have e := h.out
  rw [h1, h2, List.drop_eq_nil_of_le (i := j + 3) (by omega), duR] at e
  show _ = _
  rw [← e, List.drop_eq_nil_of_le (i := j + 4) (by omega)]; simp [duR]
theorem du_2 {acc : List Int} {out X : List UInt8} {j : Nat} {A B : Int} (h : Hid (out ++ duR (acc.drop j) = X)) (h1 : acc.drop j = A :: B :: acc.drop (j + 2)) (h3 : ¬ j + 2 < acc.length) :
    Hid (out ++ [b8 (A * 4 + B / 16)] ++ duR (acc.drop (j + 4)) = X) := by
  have e := h.out
  rw [h1, List.drop_eq_nil_of_le (i := j + 2) (by omega), duR] at e
  show _ = _
  rw [← e, List.drop_eq_nil_of_le (i := j + 4) (by omega)]; simp [duR]
theorem du_0 {acc : List Int} {out X : List UInt8} {j : Nat} (h : Hid (out ++ duR (acc.drop j) = X)) (h3 : ¬ j + 1 < acc.length) : out = X := by
  have e := h.out
  by_cases hj : j < acc.length
  · rw [List.drop_eq_getElem_cons hj, List.drop_eq_nil_of_le (i := j + 1) (by omega)] at e
    simpa [duR] using e
  · rw [List.drop_eq_nil_of_le (by omega)] at e
    simpa [duR] using e

set_option maxHeartbeats 2000000 in
set_option maxRecDepth 100000 in
theorem unB64R_any (s : ByteArray) (w : World) (hs : s.size ≤ 1000000) :
    Calls Tryd.prog 43 #[.string s] w fun e w' => e = .returned (.string ⟨(unB64R s.data.toList).toArray⟩) ∧ Below w.heap.size w w' := by
  go_enter Tryd.func43, Tryd.ntmps43
  go_upto_block 0 with fail
  go_cut [3] (fun v wc => ownsI wc w.heap.size 3 v (dR s.data.toList) ∧ Below w.heap.size w wc)
  case first =>
    go_wp2_with fail
    go_loopw [3, 4] (fun v i wr => ∃ (k : Nat) (acc : List Int), i = .int .i64 k ∧ ownsI wr w.heap.size 3 v acc ∧ Below w.heap.size w wr ∧ k ≤ s.size ∧ acc.length ≤ k ∧ Hid (acc ++ dR (tl s k) = dR (tl s 0))) (fun _ i _ => s.size - (intOf i).toNat)
    case atStart => exact ⟨0, [], rfl, ownsI.nil _ _ _, Below.refl _ _, by omega, by simp, rfl⟩
    case round =>
      obtain ⟨k, acc, rfl, hown, hbel, hk, hal, hrel⟩ := hrel
      have hsz := hbel.size
      by_cases hlt : k < s.size
      · by_cases h61 : s[k] = 61
        · have hq : ((s[k].toNat : Int) != 61) = false := by have := u8_eq (c := s[k]) (n := 61) h61 (by decide); rw [bne_eq_false_iff_eq]; omega
          obtain rfl := dR_stop hrel hlt h61
          clear hrel h61
          go_wp2_with fail
          go_meet
          exact ⟨hown, hbel⟩
        · have hq : ((s[k].toNat : Int) != 61) = true := by
            have := u8_ne h61 (n := 61) (by decide)
            rw [bne_iff_ne]; omega
          rcases (show 0 ≤ valR s[k] ∨ valR s[k] < 0 by omega) with hv | hv
          · have hlo := valR_lo s[k]
            have hhi := valR_hi s[k]
            go_wp2_with (first
            | (go_at_call 70; refine (value_any _ _).mono ?_; rintro e w' ⟨rfl, rfl⟩)
            | (at_builtin; refine append_int _ rfl (.tmp 26) (.tmp 28) isl rfl w.heap.size _ _ rfl (hown.alloc _) ⟨_, 0, none⟩ 1 1 [_] rfl rfl (cells_new _ _ _) (by first | omega | (simp; done) | (simp; omega)) (by first | omega | (simp; done) | (simp; omega)) ?_; intro v1 w1 hown1 hg1; have hb1 := Below_grownI (hbel.alloc hsz _) (hown.alloc _) hg1 (by first | omega | (simp; done) | (simp; omega)); have hz1 := hb1.size; clear hg1))
            go_roundw
            case rel => exact ⟨k + 1, _, by go_num, hown1, hb1, by omega, by simp; omega, dR_put hrel hlt h61 hv⟩
            case measure => simp [intOf]; omega
          · go_wp2_with (go_at_call 70; refine (value_any _ _).mono ?_; rintro e w' ⟨rfl, rfl⟩)
            go_roundw
            case rel => exact ⟨k + 1, _, by go_num, hown, hbel, by omega, by omega, dR_skip hrel hlt h61 hv⟩
            case measure => simp [intOf]; omega
      · obtain rfl := dR_end hrel hlt
        clear hrel
        go_wp2_with fail
        go_meet
        exact ⟨hown, hbel⟩
  case rest =>
    obtain ⟨hown, hbel⟩ := hcut
    obtain ⟨wo, rfl⟩ : ∃ wo : World, wo = wc := ⟨_, rfl⟩
    have hsz := hbel.size
    have hmem := dR_mem s.data.toList
    have hfin : Hid (unB64R s.data.toList = duR (dR s.data.toList)) := rfl
    have hl := dR_length s.data.toList
    simp at hl
    generalize dR s.data.toList = acc at *
    rcases hown.form with ⟨rfl, rfl⟩ | ⟨g, cap, rfl, hgB, hcap, hmax, hcell⟩
    · have hcv := run_string_owned (P := Tryd.prog) (ts := 9) bsl Tryd.underlying9 (ownsB.nil wo w.heap.size 5)
      go_wp2
      refine wp_loop_rounds 1 ?_
      rw [rounds_succ]
      go_wp2
      go_ret
      rw [hfin.out]
      exact ⟨rfl, hbel⟩
    · have hgl : g < wo.heap.size := (World.ownsRow.lt hown g rfl).2
      unfold maxLen at hmax
      have HM := Lib.hid hmem
      clear hmem
      go_wp2
      go_loopw [6, 7] (fun v i wr => ∃ (j : Nat) (out : List UInt8), i = .int .i64 j ∧ ownsB wr wo.heap.size 5 v out ∧ Below wo.heap.size wo wr ∧ j ≤ acc.length + 3 ∧ out.length ≤ j ∧ Hid (out ++ duR (acc.drop j) = duR acc)) (fun _ i _ => acc.length + 3 - (intOf i).toNat)
      case atStart => exact ⟨0, [], rfl, ownsB.nil _ _ _, Below.refl _ _, by omega, by simp, rfl⟩
      case round =>
        obtain ⟨j, out, rfl, hown6, hbel6, hj, haj, hrel⟩ := hrel
        have hsz6 := hbel6.size
        have cell : ∀ W, Below wo.heap.size wo W → ∀ i (h : i < acc.length), W.cell? ⟨g, i, none⟩ = some (.int .i64 acc[i]) := fun W hb i h => (hb.cell (p := ⟨g, i, none⟩) hgl).trans (hcell i h)
        have HC := Lib.hid cell
        clear cell hcell
        by_cases h1 : j + 1 < acc.length
        · have hdr := drop2 acc j h1
          obtain ⟨m0, n0⟩ := HM.out acc[j] (List.getElem_mem _)
          obtain ⟨m1, n1⟩ := HM.out acc[j + 1] (List.getElem_mem _)
          have HS : Hid (∀ W, Below wo.heap.size wo W → (W.cell? ⟨g, j, none⟩ = some (.int .i64 acc[j]) ∧ W.cell? ⟨g, j + 1, none⟩ = some (.int .i64 acc[j + 1]))) := fun W hb => ⟨HC.out W hb j (by omega), HC.out W hb (j + 1) h1⟩
          have HS2 : Hid (∀ (h2 : j + 2 < acc.length) W, Below wo.heap.size wo W → (W.cell? ⟨g, j + 1, none⟩ = some (.int .i64 acc[j + 1]) ∧ W.cell? ⟨g, j + 2, none⟩ = some (.int .i64 acc[j + 2]))) := fun h2 W hb => ⟨HC.out W hb (j + 1) h1, HC.out W hb (j + 2) h2⟩
          generalize acc[j] = A at *
          generalize acc[j + 1] = B at *
          have HD := Lib.hid hdr
          clear hdr
          have i1 : (0 : Int) ≤ (j : Int) := by omega
          have i2 : (j : Int) < (acc.length : Int) := by omega
          have i3 : IntKind.i64.wrap ((j : Int) + 1) = (j : Int) + 1 := w64 rfl (by omega) (by omega)
          have i4 : (0 : Int) ≤ (j : Int) + 1 := by omega
          have i5 : (j : Int) + 1 < (acc.length : Int) := by omega
          have i6 : ((j : Int) + 1).toNat = j + 1 := by omega
          have e1 : IntKind.i64.wrap (B.tdiv 16) = B / 16 := w64d (n := 16) m1 (by omega) (by decide)
          have e2 : IntKind.i64.wrap (A * 4) = A * 4 := w64 rfl (by omega) (by omega)
          have e3 : IntKind.i64.wrap (A * 4 + B / 16) = A * 4 + B / 16 := w64 rfl (by omega) (by omega)
          have e4 : IntKind.u8.wrap (A * 4 + B / 16) = A * 4 + B / 16 := w8 (by omega) (by omega)
          go_wp2_with fail
          go_upto_region 12 with fail
          go_cut [6] (fun v wc => ownsB wc wo.heap.size 5 v (out ++ [b8 (A * 4 + B / 16)]) ∧ Below wo.heap.size wo wc)
          case first =>
            go_region_held3 (fun W => W.cell? ⟨g, j, none⟩ = some (.int .i64 A) ∧ W.cell? ⟨g, j + 1, none⟩ = some (.int .i64 B))
              (first | exact HS.out _ (hbel6.drew) | exact HS.out _ ((hbel6.alloc hsz6 _).drew) | exact HS.out _ hb1)
              ((refine step_bytes (by rfl) (.tmp 37) (.tmp 51) bsl (by rfl) wo.heap.size _ _ (by rfl) ((hown6.alloc _).drew) ⟨_, 0, none⟩ 1 1 [b8 _] (by rfl) rfl (cells_byte _ _ _ (by omega) (by omega)) (by first | omega | (simp; done) | (simp; omega)) (by first | omega | (simp; done) | (simp; omega)) ?_; intro v1 w1 hown1 hg1; have hb1 := Below_grown ((hbel6.alloc hsz6 _).drew) ((hown6.alloc _).drew) hg1 (by first | omega | (simp; done) | (simp; omega)); have hz1 := hb1.size; clear hg1))
            all_goals
              go_wp2_with fail
              go_meet
              exact ⟨hown1, hb1⟩
          case rest =>
            clear i3 i6 e1 e2 e3 e4 HS
            obtain ⟨hown7, hbel7⟩ := hcut
            have hsz7 := hbel7.size
            clear hown6 hbel6 hsz6
            by_cases h2 : j + 2 < acc.length
            · have HS := Lib.hid (HS2.out h2)
              clear HS2
              have HD3 := Lib.hid (drop3 acc j h2)
              obtain ⟨m2, n2⟩ := HM.out acc[j + 2] (List.getElem_mem _)
              have HS3 : Hid (∀ (h3 : j + 3 < acc.length) W, Below wo.heap.size wo W → (W.cell? ⟨g, j + 2, none⟩ = some (.int .i64 acc[j + 2]) ∧ W.cell? ⟨g, j + 3, none⟩ = some (.int .i64 acc[j + 3]))) := fun h3 W hb => ⟨HC.out W hb (j + 2) h2, HC.out W hb (j + 3) h3⟩
              generalize acc[j + 2] = C at *
              have i3 : IntKind.i64.wrap ((j : Int) + 1) = (j : Int) + 1 := w64 rfl (by omega) (by omega)
              have i6 : ((j : Int) + 1).toNat = j + 1 := by omega
              have i7 : IntKind.i64.wrap ((j : Int) + 2) = (j : Int) + 2 := w64 rfl (by omega) (by omega)
              have i8 : (0 : Int) ≤ (j : Int) + 2 := by omega
              have i9 : (j : Int) + 2 < (acc.length : Int) := by omega
              have i10 : ((j : Int) + 2).toNat = j + 2 := by omega
              have e0 : B.tmod 16 = B % 16 := tmod_nn m1
              have e1 : IntKind.i64.wrap (C.tdiv 4) = C / 4 := w64d (n := 4) m2 (by omega) (by decide)
              have e2 : IntKind.i64.wrap (B % 16 * 16) = B % 16 * 16 := w64 rfl (by omega) (by omega)
              have e3 : IntKind.i64.wrap (B % 16 * 16 + C / 4) = B % 16 * 16 + C / 4 := w64 rfl (by omega) (by omega)
              have e4 : IntKind.u8.wrap (B % 16 * 16 + C / 4) = B % 16 * 16 + C / 4 := w8 (by omega) (by omega)
              go_upto_region 14 with fail
              go_cut [6] (fun v wd => ownsB wd wo.heap.size 5 v (out ++ [b8 (A * 4 + B / 16)] ++ [b8 (B % 16 * 16 + C / 4)]) ∧ Below wo.heap.size wo wd)
              case first =>
                go_region_held3 (fun W => W.cell? ⟨g, j + 1, none⟩ = some (.int .i64 B) ∧ W.cell? ⟨g, j + 2, none⟩ = some (.int .i64 C))
                  (first | exact HS.out _ (hbel7.drew) | exact HS.out _ ((hbel7.alloc hsz7 _).drew) | exact HS.out _ hb1)
                  ((refine step_bytes (by rfl) (.tmp 58) (.tmp 74) bsl (by rfl) wo.heap.size _ _ (by rfl) ((hown7.alloc _).drew) ⟨_, 0, none⟩ 1 1 [b8 _] (by rfl) rfl (cells_byte _ _ _ (by omega) (by omega)) (by first | omega | (simp; done) | (simp; omega)) (by first | omega | (simp; done) | (simp; omega)) ?_; intro v1 w1 hown1 hg1; have hb1 := Below_grown ((hbel7.alloc hsz7 _).drew) ((hown7.alloc _).drew) hg1 (by first | omega | (simp; done) | (simp; omega)); have hz1 := hb1.size; clear hg1))
                all_goals
                  go_wp2_with fail
                  go_meet
                  exact ⟨hown1, hb1⟩
              case rest =>
                clear i3 i6 i7 i10 e0 e1 e2 e3 e4 HS
                obtain ⟨hown8, hbel8⟩ := hcut
                have hsz8 := hbel8.size
                clear hown7 hbel7 hsz7
                by_cases h3 : j + 3 < acc.length
                · have HS := Lib.hid (HS3.out h3)
                  clear HS3
                  have HD4 := Lib.hid (drop4 acc j h3)
                  obtain ⟨m3, n3⟩ := HM.out acc[j + 3] (List.getElem_mem _)
                  generalize acc[j + 3] = D at *
                  have i7 : IntKind.i64.wrap ((j : Int) + 2) = (j : Int) + 2 := w64 rfl (by omega) (by omega)
                  have i10 : ((j : Int) + 2).toNat = j + 2 := by omega
                  have i11 : IntKind.i64.wrap ((j : Int) + 3) = (j : Int) + 3 := w64 rfl (by omega) (by omega)
                  have i12 : (0 : Int) ≤ (j : Int) + 3 := by omega
                  have i13 : (j : Int) + 3 < (acc.length : Int) := by omega
                  have i14 : ((j : Int) + 3).toNat = j + 3 := by omega
                  have e0 : C.tmod 4 = C % 4 := tmod_nn m2
                  have e2 : IntKind.i64.wrap (C % 4 * 64) = C % 4 * 64 := w64 rfl (by omega) (by omega)
                  have e3 : IntKind.i64.wrap (C % 4 * 64 + D) = C % 4 * 64 + D := w64 rfl (by omega) (by omega)
                  have e4 : IntKind.u8.wrap (C % 4 * 64 + D) = C % 4 * 64 + D := w8 (by omega) (by omega)
                  go_wp2_with fail
                  go_region_held3 (fun W => W.cell? ⟨g, j + 2, none⟩ = some (.int .i64 C) ∧ W.cell? ⟨g, j + 3, none⟩ = some (.int .i64 D))
                    (first | exact HS.out _ (hbel8.drew) | exact HS.out _ ((hbel8.alloc hsz8 _).drew) | exact HS.out _ hb1)
                    ((refine step_bytes (by rfl) (.tmp 81) (.tmp 96) bsl (by rfl) wo.heap.size _ _ (by rfl) ((hown8.alloc _).drew) ⟨_, 0, none⟩ 1 1 [b8 _] (by rfl) rfl (cells_byte _ _ _ (by omega) (by omega)) (by first | omega | (simp; done) | (simp; omega)) (by first | omega | (simp; done) | (simp; omega)) ?_; intro v1 w1 hown1 hg1; have hb1 := Below_grown ((hbel8.alloc hsz8 _).drew) ((hown8.alloc _).drew) hg1 (by first | omega | (simp; done) | (simp; omega)); have hz1 := hb1.size; clear hg1))
                  all_goals
                    clear i7 i10 i11 i14 e0 e2 e3 e4 HS
                    go_wp2_with fail
                    go_roundw
                    case rel => exact ⟨j + 4, _, by go_num, hown1, hb1, by omega, by simp; omega, du_4 hrel HD.out HD3.out HD4.out⟩
                    case measure => simp [intOf]; omega
                · go_wp2_with fail
                  go_roundw
                  case rel => exact ⟨j + 4, _, by go_num, hown8, hbel8, by omega, by simp; omega, du_3 hrel HD.out HD3.out h3⟩
                  case measure => simp [intOf]; omega
            · go_wp2_with fail
              go_roundw
              case rel => exact ⟨j + 4, _, by go_num, hown7, hbel7, by omega, by simp; omega, du_2 hrel HD.out h2⟩
              case measure => simp [intOf]; omega
        · have hout := du_0 hrel h1
          have H := Lib.hid hout
          clear hout
          have hcv := run_string_owned (P := Tryd.prog) (ts := 9) bsl Tryd.underlying9 hown6
          go_wp2
          go_ret
          rw [hfin.out, ← H.out]
          exact ⟨rfl, hbel.trans (hbel6.mono hbel.size)⟩
end Go.Proofs.YtafmldooephmaaaDoor
