/- Walks: the law LexBlanks. -/
import Derived.Test.YtiioijkpdkfknaaGreatDoorLawLxW
import Derived.Deep.QuietTactic
import Derived.BigQuiet
namespace Lx
open Go Pk
def BlAt (p s : ByteArray) (us : List (Tok × Nat)) (i last : Nat) (T : ByteArray) (acc : List (Tok × Nat)) : Prop :=
  T.data.toList ++ insT p.data.toList (tl s last) last (us.drop i) = insT p.data.toList s.data.toList 0 us ∧ acc ++ insA p.size i (us.drop i) = insA p.size 0 us
theorem bl_start (p s : ByteArray) (us : List (Tok × Nat)) : BlAt p s us 0 0 ⟨#[]⟩ [] := ⟨rfl, rfl⟩
theorem insT_cons (p l : List UInt8) (k : Nat) (x : Tok × Nat) (r : List (Tok × Nat)) : insT p l k (x :: r) = l.take (x.2 - k) ++ (p ++ insT p (l.drop (x.2 - k)) x.2 r) := rfl
theorem bl_step {p s : ByteArray} {us : List (Tok × Nat)} {i last : Nat} {T : ByteArray} {acc : List (Tok × Nat)} (h : BlAt p s us i last T acc) (hi : i < us.length) (h1 : last ≤ us[i].2) :
    BlAt p s us (i + 1) us[i].2 (T ++ s.extract last us[i].2 ++ p) (acc ++ [(us[i].1, us[i].2 + (i + 1) * p.size)]) := by
  obtain ⟨a, b⟩ := h
  rw [List.drop_eq_getElem_cons hi] at a b
  refine ⟨?_, ?_⟩
  · rw [← a, append_ba, append_ba, ext_eq]
    rw [insT_cons]
    have e : (tl s last).drop (us[i].2 - last) = tl s us[i].2 := by
      unfold tl
      rw [List.drop_drop]
      congr 1; omega
    rw [e]
    rw [List.append_assoc, List.append_assoc]
    rfl
  · rw [← b, List.append_assoc]
    rfl
theorem bl_end {p s : ByteArray} {us : List (Tok × Nat)} {last : Nat} {T : ByteArray} {acc : List (Tok × Nat)} (h : BlAt p s us us.length last T acc) : (T ++ s.extract last s.size).data.toList = insT p.data.toList s.data.toList 0 us ∧ acc = insA p.size 0 us := by
  obtain ⟨a, b⟩ := h
  rw [List.drop_eq_nil_of_le (Nat.le_refl _)] at a b
  refine ⟨?_, by simpa [insA] using b⟩
  rw [← a, append_ba, ext_from]
  rfl
theorem insA_len (d : Nat) : ∀ (ts : List (Tok × Nat)) (j : Nat), (insA d j ts).length = ts.length
  | [], _ => rfl
  | x :: r, j => by unfold insA; rw [List.length_cons, insA_len d r, List.length_cons]
end Lx
namespace Go.Proofs.YtiioijkpdkfknaaGreatDoor
open Go.RowKit Pk Lx

theorem scan_tot (s : ByteArray) (w : World) (hw : LW w) (hs : s.size ≤ 5000000) :
    Calls Tryz.prog 9 #[.string s] w fun e w' => ∃ (us : List (Tok × Nat)) (p : Option Addr) (c : Nat) (a b : Nat), e = .returned (.tuple #[.slice p (List.length us) c, .int .i64 a, .int .i64 b]) ∧ seesG lexLay w' w'.heap.size 28 (.slice p us.length c) (us.map lexOf) ∧ (a = 0 → Run s.data.toList 0 us none) ∧ Below w.heap.size w w' := by
  obtain ⟨ts, er, hr⟩ := run_total s.data.toList.length s.data.toList 0 (Nat.le_refl _)
  cases er with
  | none =>
    refine (scan_ok s ts hr w hw hs).mono ?_
    rintro e w' ⟨p, c, rfl, h1, h2⟩
    exact ⟨ts, p, c, 0, 0, rfl, h1, fun _ => hr, h2⟩
  | some k =>
    refine (scan_bad s ts k hr w hw hs).mono ?_
    rintro e w' ⟨rfl, h2⟩
    exact ⟨[], none, 0, 2, k, rfl, ⟨none, 0, rfl, by simp, .inl rfl⟩, fun h => by omega, h2⟩
set_option maxHeartbeats 8000000 in
set_option maxRecDepth 100000 in
theorem lexBlanks_any (s p : ByteArray) (w : World) (hw : LW w) (hs1 : s.size ≤ 1048576) (hp1 : p.size ≤ 1048576) : Calls Tryz.prog 3 #[.string s, .string p] w (TrueRet w) := by
  have HW := Lib.hid (fun w1 (hb : Below w.heap.size w w1) => hw.later hb)
  have HSm := Lib.hid (small_any w hw)
  have hz : (p ++ ⟨#[120]⟩ : ByteArray).size = p.size + 1 := by rw [ByteArray.size_append]; rfl
  have H1 := Lib.hid (fun w1 (hb : Below w.heap.size w w1) => scan_tot s w1 (hw.later hb) (by omega))
  have H2 := Lib.hid (fun w1 (hb : Below w.heap.size w w1) => scan_tot (p ++ ⟨#[120]⟩) w1 (hw.later hb) (by omega))
  clear hw hz
  go_enter Tryz.func3, Tryz.ntmps3
  have tb : Below w.heap.size w w := Below.refl _ _
  go_wp2_with (first
    | (go_at_call 8; (with_reducible refine HSm.out.mono ?_); rintro e w1 ⟨rfl, hb1⟩; replace tb := tb.trans (hb1.mono tb.size))
    | (go_at_call 9; (with_reducible refine (H1.out _ tb).mono ?_); rintro e w2 ⟨us, p2, c2, a2, b2, rfl, hS2, hR2, hb2⟩; replace tb := tb.trans (hb2.mono tb.size); clear hb2))
  refine (H2.out _ tb).mono ?_
  rintro e w3 ⟨xs, p3, c3, a3, b3, rfl, hS3, hR3, hb3⟩
  replace tb := tb.trans (hb3.mono tb.size)
  replace hS2 := hS2.later hb3 (Nat.le_refl _)
  clear hb3 H1 H2
  by_cases k1 : 2000 < s.size
  · have q1 : decide ((2000 : Int) < (s.size : Int)) = true := decide_eq_true (by omega)
    clear hR2 hR3 hS2 hS3
    go_wp2
    go_ret
    exact ⟨rfl, tb⟩
  have q1 : decide ((2000 : Int) < (s.size : Int)) = false := decide_eq_false (by omega)
  by_cases k2 : 50 < p.size
  · have q2 : decide ((50 : Int) < (p.size : Int)) = true := decide_eq_true (by omega)
    clear hR2 hR3 hS2 hS3
    go_wp2
    go_ret
    exact ⟨rfl, tb⟩
  have q2 : decide ((50 : Int) < (p.size : Int)) = false := decide_eq_false (by omega)
  by_cases k3 : a2 = 0
  case neg =>
    have q3 : ((a2 : Int) != 0) = true := bne_iff_ne.2 (by omega)
    clear hR2 hR3 hS2 hS3 k3
    go_wp2
    go_ret
    exact ⟨rfl, tb⟩
  replace hR2 := hR2 k3
  subst k3
  by_cases k4 : a3 = 0
  case neg =>
    have q3 : ((a3 : Int) != 0) = true := bne_iff_ne.2 (by omega)
    clear hR2 hR3 hS2 hS3 k4
    go_wp2
    go_ret
    exact ⟨rfl, tb⟩
  replace hR3 := hR3 k4
  subst k4
  by_cases k5 : xs.length = 1
  case neg =>
    have q3 : ((xs.length : Int) != 1) = true := bne_iff_ne.2 (by omega)
    clear hR2 hR3 hS2 hS3 k5
    go_wp2
    go_ret
    exact ⟨rfl, tb⟩
  obtain ⟨xv, hxv⟩ := List.length_eq_one_iff.1 k5
  subst hxv
  obtain ⟨⟨tk, tt, tn⟩, ta⟩ := xv
  obtain ⟨p', c', hv, hlc, hcells⟩ := hS3.form
  injection hv with hv1 hv2 hv3
  subst hv1; subst hv3
  rcases hcells with h0 | ⟨g3, rfl, -, hcells⟩
  · cases h0
  obtain ⟨x0, -, -, x3⟩ := lex_cells (hcells 0 Nat.one_pos)
  replace x0 : w3.cell? ⟨g3, 0, none⟩ = some (.int .i64 (tk : Nat)) := x0
  replace x3 : w3.cell? ⟨g3, 3, none⟩ = some (.int .i64 (ta : Nat)) := x3
  clear hcells hS3 hv2 hlc
  by_cases k6 : tk = 1
  case neg =>
    have q3 : ((tk : Int) != 1) = true := bne_iff_ne.2 (by omega)
    clear hR2 hR3 hS2 k6
    go_wp2
    go_ret
    exact ⟨rfl, tb⟩
  have q6 : ((tk : Int) != 1) = false := by rw [k6]; rfl
  by_cases k7 : ta = p.size
  case neg =>
    have q3 : ((ta : Int) != (p.size : Int)) = true := bne_iff_ne.2 (by omega)
    clear hR2 hR3 hS2 k6 k7
    go_wp2
    go_ret
    exact ⟨rfl, tb⟩
  have q7 : ((ta : Int) != (p.size : Int)) = false := by rw [k7]; simp
  subst k7
  rw [append_ba] at hR3
  have hins := Run.ins (p := p.data.toList) (x := ⟨tk, tt, tn⟩) hR3 hR2 rfl 0
  have hM := hR2.mono
  have hE := fun x hx => (hR2.le x hx).2
  have hul := hR2.count
  rw [dataL] at hul hE
  clear k6 hR3 hR2
  obtain ⟨p', c', hv, hlc, hcells⟩ := hS2.form
  injection hv with hv1 hv2 hv3
  subst hv1; subst hv3
  clear hv2
  have HM := Lib.hid hM
  have HE := Lib.hid hE
  have HC := Lib.hid hcells
  have HI := Lib.hid hins
  rw [List.length_map] at hlc
  clear hM hE hcells hins hS2
  go_wp2
  clear x0 x3
  go_loopw [12, 13, 14, 15] (fun tv lv wv iv wr => ∃ (i last : Nat) (T : ByteArray) (acc : List (Tok × Nat)), iv = .int .i64 i ∧ lv = .int .i64 last ∧ tv = .string T ∧ i ≤ us.length ∧ last ≤ s.size ∧ T.size ≤ last + 50 * i ∧ ownsG lexLay wr w3.heap.size 28 wv (acc.map lexOf) ∧ acc.length = i ∧ Below w3.heap.size w3 wr ∧ Hid (BlAt p s us i last T acc) ∧ ∀ (hi : i < us.length), last ≤ us[i].2) (fun _ _ _ iv _ => us.length - (intOf iv).toNat)
  case atStart => exact ⟨0, 0, ⟨#[]⟩, [], by first | rfl | trivial, by first | rfl | trivial, rfl, Nat.zero_le _, Nat.zero_le _, Nat.zero_le _, ownsG.nil _ _ _ _, rfl, Below.refl _ _, bl_start _ _ _, fun _ => Nat.zero_le _⟩
  case round =>
    obtain ⟨i, last, T, acc, rfl, rfl, rfl, hi, hls, hTs, hown, hal, hbel, hBl, hlast⟩ := hrel
    replace tb := tb.trans (hbel.mono tb.size)
    have htz := tb.size
    have hbz := hbel.size
    by_cases hlt : i < us.length
    · rcases HC.out with h0 | ⟨g, rfl, -, hcells⟩
      · have := congrArg List.length h0
        rw [List.length_map, List.length_nil] at this
        omega
      · have hle : i < (us.map lexOf).length := by rw [List.length_map]; exact hlt
        obtain ⟨a0, a1, a2, a3⟩ := lex_cells (hcells i hle)
        have hlx : (us.map lexOf)[i] = lexOf us[i] := by simp
        rw [hlx] at a0 a1 a2 a3
        have hE := HE.out _ (List.getElem_mem hlt)
        rw [Nat.zero_add] at hE
        replace hlast := hlast hlt
        have hnx := bl_step hBl.out hlt hlast
        have hmono : ∀ (hi : i + 1 < us.length), us[i].2 ≤ us[i + 1].2 := fun hi => Nat.le_of_lt (HM.out i hi)
        replace a0 : w3.cell? ⟨g, i * 4, none⟩ = some (.int .i64 (us[i].1.k : Nat)) := a0
        replace a1 : w3.cell? ⟨g, i * 4 + 1, none⟩ = some (.string (toB us[i].1.t)) := a1
        replace a2 : w3.cell? ⟨g, i * 4 + 2, none⟩ = some (.int .i64 (us[i].1.n : Nat)) := a2
        replace a3 : w3.cell? ⟨g, i * 4 + 3, none⟩ = some (.int .i64 (us[i].2 : Nat)) := a3
        clear hcells hle hlx hBl
        generalize hti : us[i] = ti at *
        obtain ⟨⟨uk, ut, un⟩, a⟩ := ti
        dsimp only at a0 a1 a2 a3 hE hlast hnx hmono
        have HN := Lib.hid hnx
        have HMo := Lib.hid hmono
        clear hnx hmono hti
        have b0 := cell_later hbel a0
        have b1 := cell_later hbel a1
        have b2 := cell_later hbel a2
        have b3 := cell_later hbel a3
        clear a0 a1 a2 a3
        have m1 : (0 : Int) ≤ ((i : Int) + 1) * (p.size : Int) := Int.mul_nonneg (by omega) (by omega)
        have m2 : ((i : Int) + 1) * (p.size : Int) ≤ 2001 * 50 := Int.mul_le_mul (by omega) (by omega) (by omega) (by omega)
        have q8 : decide (a < last) = false := decide_eq_false (by omega)
        have q9 : decide (s.size < a) = false := decide_eq_false (by omega)
        have z1 : (0 : Int) ≤ (last : Int) := by omega
        have z2 : (last : Int) ≤ (a : Int) := by omega
        have z3 : (a : Int) ≤ (s.size : Int) := by omega
        have hxz : (s.extract last a).size = a - last := by rw [ext_size]; omega
        have hnz : (T ++ s.extract last a ++ p : ByteArray).size = T.size + (a - last) + p.size := by rw [ByteArray.size_append, ByteArray.size_append, hxz]
        have hlx : lexOf (⟨uk, ut, un⟩, a + (i + 1) * p.size) = ⟨uk, toB ut, un, (a : Int) + ((i : Int) + 1) * (p.size : Int)⟩ := by
          unfold lexOf toB
          refine lex_ext rfl rfl rfl ?_
          show ((a + (i + 1) * p.size : Nat) : Int) = _
          push_cast; rfl
        have HLX := Lib.hid hlx
        clear hlx
        go_wp2_with (at_builtin; go_loud (refine append_g _ rfl (.tmp 113) (.tmp 115) slL rfl w3.heap.size _ (acc.map lexOf) rfl (ownsG.alloc (ownsG.alloc hown _) _) ⟨_, 0, none⟩ [⟨uk, toB ut, un, (a : Int) + ((i : Int) + 1) * (p.size : Int)⟩] 1 1 rfl rfl (cells_at _ _ (by simp) _ _) (by rw [List.length_map]; omega) (by rw [List.length_map]; omega) (by simp; omega) ?_; intro v6 w6 hown6 hg6; have hbB := (hbel.alloc hbz (.cells #[.int .i64 uk, .string (toB ut), .int .i64 un, .int .i64 ((a : Int) + ((i : Int) + 1) * (p.size : Int))] 28)).alloc (by simp; omega) (.cells #[.int .i64 uk, .string (toB ut), .int .i64 un, .int .i64 ((a : Int) + ((i : Int) + 1) * (p.size : Int))] 28); have hb6 := Below_grownG hbB (ownsG.alloc (ownsG.alloc hown _) _) hg6 (by simp; omega); clear hg6 hbB))
        go_roundw
        case rel => exact ⟨i + 1, a, T ++ s.extract last a ++ p, acc ++ [(⟨uk, ut, un⟩, a + (i + 1) * p.size)], by go_num, rfl, rfl, by omega, by omega, by omega, by rw [List.map_append, List.map_singleton, HLX.out]; exact hown6, by rw [List.length_append, List.length_singleton]; omega, hb6, HN, HMo.out⟩
        case measure => simp [intOf]; omega
    · obtain rfl : i = us.length := by omega
      obtain ⟨hT, hA⟩ := bl_end hBl.out
      have hrun : Run (T ++ s.extract last s.size).data.toList 0 acc none := by
        have := HI.out
        rw [Nat.zero_mul, dataL, ← hT, ← hA] at this
        exact this
      have hxz := ext_size s last s.size
      have hnz : (T ++ s.extract last s.size : ByteArray).size = T.size + (s.extract last s.size).size := ByteArray.size_append
      have hsc := scan_ok _ acc hrun
      have HSc := Lib.hid (fun w1 (hb : Below w.heap.size w w1) => hsc w1 (HW.out w1 hb) (by omega))
      have z1 : (0 : Int) ≤ (last : Int) := by omega
      have z2 : (last : Int) ≤ (s.size : Int) := by omega
      have hsW := hown.sees (Nat.le_refl _)
      have eS : sameL (acc.map lexOf) (acc.map lexOf) = true := (sameL_iff _ _).2 rfl
      have hlm : (acc.map lexOf).length ≤ 100000000 := by rw [List.length_map]; omega
      have htb := tb
      clear hBl hlast hT hA hrun hsc hown hal
      go_wp2_with (first
        | (go_at_call 9; (with_reducible refine (HSc.out _ tb).mono ?_); rintro e w5 ⟨p5, c5, rfl, hsee, hb5⟩; replace htb := tb.trans (hb5.mono htz); replace hsW := hsW.later hb5 (Nat.le_refl _))
        | (go_at_call 10; go_loud (refine (sameL_any _ _ (acc.map lexOf) (acc.map lexOf) _ hsee hsW hlm).mono ?_; rw [eS]; rintro e w6 ⟨rfl, hb6⟩; replace htb := htb.trans (hb6.mono htb.size))))
      go_ret
      exact ⟨rfl, htb⟩
end Go.Proofs.YtiioijkpdkfknaaGreatDoor
