/- Walks: the law LexPlaces. -/
import Derived.Test.YtiioijkpdkfknaaGreatDoorLawLxW
import Derived.Deep.QuietTactic
import Derived.BigQuiet
namespace Lx
open Go Pk C1
theorem low_of {c : UInt8} (h : isWd c = true) : (lowW (lowC c) || isDig (lowC c)) = true ∧ (isLet c = true → lowW (lowC c) = true) := by
  have e : ∀ n : Nat, n < 256 → isWd (UInt8.ofNat n) = true → (lowW (lowC (UInt8.ofNat n)) || isDig (lowC (UInt8.ofNat n))) = true ∧ (isLet (UInt8.ofNat n) = true → lowW (lowC (UInt8.ofNat n)) = true) := by decide +kernel
  have := e c.toNat c.toNat_lt
  rw [UInt8.ofNat_toNat] at this
  exact this h
theorem span_all_p (p : UInt8 → Bool) : ∀ (l : List UInt8), ∀ d ∈ l.take (spanL p l), p d = true
  | [], d, h => by cases h
  | c :: r, d, h => by
    unfold spanL at h
    by_cases hc : p c = true
    · rw [if_pos hc, List.take_succ_cons] at h
      rcases List.mem_cons.1 h with h | h
      · rw [h]; exact hc
      · exact span_all_p p r d h
    · rw [if_neg hc] at h; cases h
theorem name_ident {l : List UInt8} (h : 0 < identL l) : nameB (lowL (l.take (identL l))) = true := by
  cases l with
  | nil => simp [identL] at h
  | cons c r =>
    rw [identL_cons] at h ⊢
    by_cases hc : isLet c = true
    · rw [if_pos hc, List.take_succ_cons]
      unfold lowL
      rw [List.map_cons]
      show (lowW (lowC c) && _) = true
      rw [(low_of (by unfold isWd; rw [hc]; rfl)).2 hc, Bool.true_and, List.all_eq_true]
      intro d hd
      obtain ⟨e, he, rfl⟩ := List.mem_map.1 hd
      exact (low_of (span_all_p isWd r e he)).1
    · rw [if_neg hc] at h; omega
theorem low_t {c : UInt8} (h : lowC c = 116) : c = 116 ∨ c = 84 := by
  have e : ∀ n : Nat, n < 256 → lowC (UInt8.ofNat n) = 116 → UInt8.ofNat n = 116 ∨ UInt8.ofNat n = 84 := by decide +kernel
  have := e c.toNat c.toNat_lt
  rw [UInt8.ofNat_toNat] at this
  exact this h
theorem tok_kind {c : UInt8} {r : List UInt8} {t : Tok} {n : Nat} (h : tokenL (c :: r) = some (t, n)) :
    (t.k = 1 ∧ nameB t.t = true ∧ t.t.length ≤ r.length + 1) ∨ (t.k = 2 ∧ c = 58 ∧ nameB t.t = true ∧ t.t.length ≤ r.length) ∨ (t.k = 3 ∧ isDig c = true ∧ t.n ≤ most) ∨ (t.k = 4 ∧ (c = 34 ∨ c = 116 ∨ c = 84)) ∨ (t.k = 5 ∧ t.t = [c]) := by
  have hil := identL_le (c :: r)
  rw [List.length_cons] at hil
  unfold tokenL at h
  split at h
  · rename_i h1
    cases hr : multiL ((c :: r).drop 5) with
    | none => rw [hr] at h; cases h
    | some p =>
      rw [hr] at h
      injection h with h
      injection h with h _
      subst h
      have := h1.2.1
      rw [List.take_succ_cons] at this
      unfold lowL textW at this
      rw [List.map_cons] at this
      injection this with this _
      exact .inr (.inr (.inr (.inl ⟨rfl, .inr (low_t this)⟩)))
  · split at h
    · rename_i h2
      injection h with h
      injection h with h _
      subst h
      refine .inl ⟨rfl, name_ident h2, ?_⟩
      show (lowL _).length ≤ _
      unfold lowL
      rw [List.length_map, List.length_take, List.length_cons]; omega
    · simp only at h
      split at h
      · rename_i h3
        injection h with h
        injection h with h _
        subst h
        refine .inr (.inl ⟨rfl, h3.1, name_ident h3.2, ?_⟩)
        show (lowL _).length ≤ _
        unfold lowL
        rw [List.length_map, List.length_take]; omega
      · split at h
        · rename_i h4
          cases hr : numL (c :: r) with
          | none => rw [hr] at h; cases h
          | some p =>
            rw [hr] at h
            injection h with h
            injection h with h _
            subst h
            exact .inr (.inr (.inl ⟨rfl, h4, (numL_le (v := p.1) (n := p.2) hr).2.2.2.2⟩))
        · split at h
          · rename_i h5
            cases hr : quoL r with
            | none => rw [hr] at h; cases h
            | some p =>
              rw [hr] at h
              injection h with h
              injection h with h _
              subst h
              exact .inr (.inr (.inr (.inl ⟨rfl, .inl h5⟩)))
          · split at h
            · injection h with h
              injection h with h _
              subst h
              exact .inr (.inr (.inr (.inr ⟨rfl, rfl⟩)))
            · cases h
/-- what the law asks of token i -/
theorem place_at {s : ByteArray} {ts : List (Tok × Nat)} (h : Run s.data.toList 0 ts none) {i : Nat} (hi : i < ts.length) :
    ∃ hk : ts[i].2 < s.size, Run (s.extract 0 ts[i].2).data.toList 0 (ts.take i) none ∧
    ((ts[i].1.k = 1 ∧ nameB ts[i].1.t = true ∧ ts[i].2 + ts[i].1.t.length ≤ s.size) ∨ (ts[i].1.k = 2 ∧ s[ts[i].2] = 58 ∧ nameB ts[i].1.t = true ∧ ts[i].1.t.length ≤ s.size) ∨ (ts[i].1.k = 3 ∧ isDig s[ts[i].2] = true ∧ ts[i].1.n ≤ most) ∨ (ts[i].1.k = 4 ∧ (s[ts[i].2] = 34 ∨ s[ts[i].2] = 116 ∨ s[ts[i].2] = 84)) ∨ (ts[i].1.k = 5 ∧ ts[i].1.t = [s[ts[i].2]])) := by
  obtain ⟨x, Y, n, h1, h2, h3, h4, h5, h6⟩ := h.places.1 i hi
  rw [Nat.zero_add] at h2
  have hl : s.size = x.length + Y.length := by rw [← dataL, h1, List.length_append]
  have hY : 0 < Y.length := List.length_pos_iff.2 h3
  have hk : ts[i].2 < s.size := by omega
  refine ⟨hk, ?_, ?_⟩
  · rw [ext_to, h1, h2]
    simpa using h4
  · have hd : s.data.toList.drop ts[i].2 = s[ts[i].2] :: tl s (ts[i].2 + 1) := tl_cons s _ hk
    have hY2 : Y = s[ts[i].2] :: tl s (ts[i].2 + 1) := by
      rw [← hd, h1, h2, List.drop_append_of_le_length (Nat.le_refl _), List.drop_eq_nil_of_le (Nat.le_refl _), List.nil_append]
    rw [hY2] at h6
    have ht := tl_length s (ts[i].2 + 1)
    rcases tok_kind h6 with ⟨a, b, c⟩ | ⟨a, b, c, d⟩ | ⟨a, b, c⟩ | ⟨a, b⟩ | ⟨a, b⟩
    · exact .inl ⟨a, b, by omega⟩
    · exact .inr (.inl ⟨a, b, c, by omega⟩)
    · exact .inr (.inr (.inl ⟨a, b, c⟩))
    · exact .inr (.inr (.inr (.inl ⟨a, b⟩)))
    · exact .inr (.inr (.inr (.inr ⟨a, b⟩)))
end Lx
namespace Go.Proofs.YtiioijkpdkfknaaGreatDoor
open Go.RowKit Pk Lx

structure PlaceF (s : ByteArray) (t : Tok) (a i : Nat) (us : List (Tok × Nat)) : Prop where
  lt : a < s.size
  run : Run (s.extract 0 a).data.toList 0 us none
  len : us.length = i
  kind : (t.k = 1 ∧ nameB t.t = true ∧ a + t.t.length ≤ s.size) ∨ (t.k = 2 ∧ s[a] = 58 ∧ nameB t.t = true ∧ t.t.length ≤ s.size) ∨ (t.k = 3 ∧ isDig s[a] = true ∧ t.n ≤ most) ∨ (t.k = 4 ∧ (s[a] = 34 ∨ s[a] = 116 ∨ s[a] = 84)) ∨ (t.k = 5 ∧ t.t = [s[a]])
theorem below_drawP (w : World) (n : Nat) : Below w.heap.size w (w.drewN n) := ⟨rfl, rfl, rfl, Nat.le_refl _, fun _ _ => rfl⟩
theorem scan_un (s : ByteArray) (w : World) (hw : LW w) (hs : s.size ≤ 5000000) :
    Calls Tryz.prog 9 #[.string s] w fun e w' => ∃ (us : List (Tok × Nat)) (p : Option Addr) (c : Nat) (a b : Nat), e = .returned (.tuple #[.slice p (List.length us) c, .int .i64 a, .int .i64 b]) ∧ seesG lexLay w' w'.heap.size 28 (.slice p us.length c) (us.map lexOf) ∧
      (∀ i (hi : i < us.length), PlaceF s us[i].1 us[i].2 i (us.take i)) ∧ (∀ i (hi : i + 1 < us.length), us[i].2 < us[i + 1].2) ∧ us.length ≤ s.size ∧ Below w.heap.size w w' := by
  obtain ⟨ts, er, hr⟩ := run_total s.data.toList.length s.data.toList 0 (Nat.le_refl _)
  cases er with
  | none =>
    refine (scan_ok s ts hr w hw hs).mono ?_
    rintro e w' ⟨p, c, rfl, h1, h2⟩
    have hc := hr.count
    rw [dataL] at hc
    refine ⟨ts, p, c, 0, 0, rfl, h1, fun i hi => ?_, fun i hi => hr.mono i hi, hc, h2⟩
    obtain ⟨hk, a, b⟩ := place_at hr hi
    exact ⟨hk, a, by rw [List.length_take]; omega, b⟩
  | some k =>
    refine (scan_bad s ts k hr w hw hs).mono ?_
    rintro e w' ⟨rfl, h2⟩
    exact ⟨[], none, 0, 2, k, rfl, ⟨none, 0, rfl, by simp, .inl rfl⟩, fun i hi => absurd hi (by simp), fun i hi => absurd hi (by simp), by simp, h2⟩
theorem scan_len (s : ByteArray) (a i : Nat) (us : List (Tok × Nat)) (h : Run (s.extract 0 a).data.toList 0 us none ∧ us.length = i) (w : World) (hw : LW w) (hs : s.size ≤ 5000000) :
    Calls Tryz.prog 9 #[.string (s.extract 0 a)] w fun e w' => ∃ p c, e = .returned (.tuple #[.slice p i c, .int .i64 0, .int .i64 0]) ∧ Below w.heap.size w w' := by
  obtain ⟨h, rfl⟩ := h
  exact (scan_ok _ us h w hw (by rw [ext_size]; omega)).mono fun e w' ⟨p, c, h1, _, h2⟩ => ⟨p, c, h1, h2⟩
set_option maxHeartbeats 8000000 in
set_option maxRecDepth 100000 in
theorem lexPlaces_any (s : ByteArray) (w : World) (hw : LW w) : Calls Tryz.prog 5 #[.string s] w (TrueRet w) := by
  have HW := Lib.hid (fun w1 (hb : Below w.heap.size w w1) => hw.later hb)
  have HSm := Lib.hid (small_any w hw)
  clear hw
  by_cases hs : 3000 < s.size
  · have q : decide ((3000 : Int) < (s.size : Int)) = true := decide_eq_true (by omega)
    go_enter Tryz.func5, Tryz.ntmps5
    go_wp2_with (go_at_call 8; (with_reducible refine HSm.out.mono ?_); rintro e w1 ⟨rfl, hb1⟩)
    go_ret
    exact ⟨rfl, hb1⟩
  · have q : decide ((3000 : Int) < (s.size : Int)) = false := decide_eq_false (by omega)
    have H1 := Lib.hid (fun w1 (hb : Below w.heap.size w w1) => scan_un s w1 (HW.out w1 hb) (by omega))
    go_enter Tryz.func5, Tryz.ntmps5
    have tb : Below w.heap.size w w := Below.refl _ _
    go_wp2_with (go_at_call 8; (with_reducible refine HSm.out.mono ?_); rintro e w1 ⟨rfl, hb1⟩; replace tb := tb.trans (hb1.mono tb.size))
    refine (H1.out _ tb).mono ?_
    rintro e w2 ⟨us, p, c, e0, k0, rfl, hS, hF, hM, hul, hb2⟩
    replace tb := tb.trans (hb2.mono tb.size)
    obtain ⟨p', c', hv, hlc, hcells⟩ := hS.form
    injection hv with hv1 hv2 hv3
    subst hv1; subst hv3
    clear hv2
    have HF := Lib.hid hF
    have HM := Lib.hid hM
    have HC := Lib.hid hcells
    rw [List.length_map] at hlc
    clear H1 hS hF hM hcells hb1 hb2
    go_wp2
    go_loopw [7] (fun iv wr => ∃ i : Nat, iv = .int .i64 i ∧ i ≤ us.length ∧ Below w.heap.size w wr ∧ Below w2.heap.size w2 wr) (fun iv _ => us.length - (intOf iv).toNat)
    case atStart => exact ⟨0, by first | rfl | trivial, Nat.zero_le _, tb, Below.refl _ _⟩
    case round =>
      clear tb
      obtain ⟨i, rfl, hi, tb, hbel⟩ := hrel
      by_cases hlt : i < us.length
      · rcases HC.out with h0 | ⟨g, rfl, -, hcells⟩
        · have := congrArg List.length h0
          rw [List.length_map, List.length_nil] at this
          omega
        · have hle : i < (us.map lexOf).length := by rw [List.length_map]; exact hlt
          obtain ⟨a0, a1, a2, a3⟩ := lex_cells (hcells i hle)
          have hlx : (us.map lexOf)[i] = lexOf us[i] := by simp
          rw [hlx] at a0 a1 a2 a3
          have hF := HF.out i hlt
          have hpr : ∀ j (hj : j + 1 = i), ∃ pa : Nat, pa < us[i].2 ∧ w2.cell? ⟨g, j * 4 + 3, none⟩ = some (.int .i64 pa) := fun j hj => by
            subst hj
            refine ⟨us[j].2, HM.out j hlt, ?_⟩
            have hjl : j < (us.map lexOf).length := by rw [List.length_map]; omega
            have := (lex_cells (hcells j hjl)).2.2.2
            have hlj : (us.map lexOf)[j] = lexOf us[j] := by simp
            rw [hlj] at this
            exact this
          replace a0 : w2.cell? ⟨g, i * 4, none⟩ = some (.int .i64 (us[i].1.k : Nat)) := a0
          replace a1 : w2.cell? ⟨g, i * 4 + 1, none⟩ = some (.string (toB us[i].1.t)) := a1
          replace a2 : w2.cell? ⟨g, i * 4 + 2, none⟩ = some (.int .i64 (us[i].1.n : Nat)) := a2
          replace a3 : w2.cell? ⟨g, i * 4 + 3, none⟩ = some (.int .i64 (us[i].2 : Nat)) := a3
          clear hcells hle hlx
          generalize us.take i = vs at *
          obtain ⟨⟨tk, tt, tn⟩, a, hti⟩ : ∃ (t : Tok) (a : Nat), us[i] = (t, a) := ⟨_, _, rfl⟩
          rw [hti] at a0 a1 a2 a3 hF hpr
          clear hti
          replace a0 := cell_later hbel a0
          replace a1 := cell_later hbel a1
          replace a2 := cell_later hbel a2
          replace a3 := cell_later hbel a3
          simp only at a0 a1 a2 a3 hF hpr
          obtain ⟨hka, hru, hln, hK⟩ := hF
          dsimp only at hK
          have hR := And.intro hru hln
          clear hru hln
          have z1 : (a : Int) < (s.size : Int) := by omega
          have q1 : decide (s.size ≤ a) = false := decide_eq_false (by omega)
          by_cases h0 : 0 < i
          · obtain ⟨pa, hpa, ap⟩ := hpr (i - 1) (by omega)
            replace ap := cell_later hbel ap
            have q2 : decide ((0 : Int) < (i : Int)) = true := decide_eq_true (by omega)
            have q3 : decide (a ≤ pa) = false := decide_eq_false (by omega)
            have z2 : (0 : Int) ≤ (i : Int) - 1 := by omega
            have z3 : ((i : Int) - 1).toNat = i - 1 := by omega
            have z4 : (i : Int) - 1 < (us.length : Int) := by omega
            clear hpr hpa
            rcases hK with ⟨k1, k2, k3⟩ | ⟨k1, k2, k3, k4⟩ | ⟨k1, k2, k3⟩ | ⟨k1, k2⟩ | ⟨k1, k2⟩
            · subst k1
              have hNm := fun w => name_any (toB tt) w (by rw [toB_size]; omega)
              rw [toB_data, k2] at hNm
              have hts := toB_size tt
              generalize toB tt = T at *
              have HNm := Lib.hid hNm
              have q5 : decide ((a : Int) + (T.size : Int) ≤ (s.size : Int)) = true := decide_eq_true (by omega)
              have hTb : T.size ≤ 5000 := by omega
              clear hNm k2 k3 hts
              have HN := Lib.hid (fun w1 (hb : Below w.heap.size w w1) => scan_len s a i vs hR w1 (HW.out w1 hb) (by omega))
              clear hR
              go_wp2_with (first
                | (go_at_call 11; (with_reducible refine (HNm.out _).mono ?_); rintro e w1 ⟨rfl, rfl⟩)
                | (go_at_call 9; (with_reducible refine (HN.out _ tb).mono ?_); rintro e w4 ⟨p4, c4, rfl, hb4⟩; replace tb := tb.trans (hb4.mono tb.size); replace hbel := hbel.trans (hb4.mono hbel.size)))
              go_roundw
              case rel => exact ⟨i + 1, by go_num, by omega, tb, hbel⟩
              case measure => simp [intOf]; omega
            · subst k1
              have hNm := fun w => name_any (toB tt) w (by rw [toB_size]; omega)
              rw [toB_data, k3] at hNm
              generalize toB tt = T at *
              have HNm := Lib.hid hNm
              have q5 : ((s[a].toNat : Int) == 58) = true := (u8k 58 (by decide)).trans (decide_eq_true k2)
              clear hNm k2 k3 k4
              have HN := Lib.hid (fun w1 (hb : Below w.heap.size w w1) => scan_len s a i vs hR w1 (HW.out w1 hb) (by omega))
              clear hR
              go_wp2_with (first
                | (go_at_call 11; (with_reducible refine (HNm.out _).mono ?_); rintro e w1 ⟨rfl, rfl⟩)
                | (go_at_call 9; (with_reducible refine (HN.out _ tb).mono ?_); rintro e w4 ⟨p4, c4, rfl, hb4⟩; replace tb := tb.trans (hb4.mono tb.size); replace hbel := hbel.trans (hb4.mono hbel.size)))
              go_roundw
              case rel => exact ⟨i + 1, by go_num, by omega, tb, hbel⟩
              case measure => simp [intOf]; omega
            · subst k1
              generalize toB tt = T at *
              have k2 := of_decide_eq_true (show decide _ = true from k2)
              have q5 : decide ((48 : Int) ≤ (s[a].toNat : Int)) = true := decide_eq_true (by omega)
              have q6 : decide ((s[a].toNat : Int) ≤ 57) = true := decide_eq_true (by omega)
              have q7 : decide ((0 : Int) ≤ (tn : Int)) = true := decide_eq_true (by omega)
              have q8 : decide ((tn : Int) ≤ 1099511627776) = true := decide_eq_true (by unfold most at k3; omega)
              clear k2 k3
              have HN := Lib.hid (fun w1 (hb : Below w.heap.size w w1) => scan_len s a i vs hR w1 (HW.out w1 hb) (by omega))
              clear hR
              go_wp2_with (first
                | (go_at_call 11; (with_reducible refine (HNm.out _).mono ?_); rintro e w1 ⟨rfl, rfl⟩)
                | (go_at_call 9; (with_reducible refine (HN.out _ tb).mono ?_); rintro e w4 ⟨p4, c4, rfl, hb4⟩; replace tb := tb.trans (hb4.mono tb.size); replace hbel := hbel.trans (hb4.mono hbel.size)))
              go_roundw
              case rel => exact ⟨i + 1, by go_num, by omega, tb, hbel⟩
              case measure => simp [intOf]; omega
            · subst k1
              generalize toB tt = T at *
              rcases k2 with k2 | k2 | k2
              · have q5 : ((s[a].toNat : Int) == 34) = true := (u8k 34 (by decide)).trans (decide_eq_true k2)
                clear k2
                have HN := Lib.hid (fun w1 (hb : Below w.heap.size w w1) => scan_len s a i vs hR w1 (HW.out w1 hb) (by omega))
                clear hR
                go_wp2_with (first
                  | (go_at_call 11; (with_reducible refine (HNm.out _).mono ?_); rintro e w1 ⟨rfl, rfl⟩)
                  | (go_at_call 9; (with_reducible refine (HN.out _ tb).mono ?_); rintro e w4 ⟨p4, c4, rfl, hb4⟩; replace tb := tb.trans (hb4.mono tb.size); replace hbel := hbel.trans (hb4.mono hbel.size)))
                go_roundw
                case rel => exact ⟨i + 1, by go_num, by omega, tb, hbel⟩
                case measure => simp [intOf]; omega
              · have q5 : ((s[a].toNat : Int) == 34) = false := (u8k 34 (by decide)).trans (decide_eq_false (by rw [k2]; decide))
                have q6 : ((s[a].toNat : Int) == 116) = true := (u8k 116 (by decide)).trans (decide_eq_true k2)
                clear k2
                have HN := Lib.hid (fun w1 (hb : Below w.heap.size w w1) => scan_len s a i vs hR w1 (HW.out w1 hb) (by omega))
                clear hR
                go_wp2_with (first
                  | (go_at_call 11; (with_reducible refine (HNm.out _).mono ?_); rintro e w1 ⟨rfl, rfl⟩)
                  | (go_at_call 9; (with_reducible refine (HN.out _ tb).mono ?_); rintro e w4 ⟨p4, c4, rfl, hb4⟩; replace tb := tb.trans (hb4.mono tb.size); replace hbel := hbel.trans (hb4.mono hbel.size)))
                go_roundw
                case rel => exact ⟨i + 1, by go_num, by omega, tb, hbel⟩
                case measure => simp [intOf]; omega
              · have q5 : ((s[a].toNat : Int) == 34) = false := (u8k 34 (by decide)).trans (decide_eq_false (by rw [k2]; decide))
                have q6 : ((s[a].toNat : Int) == 116) = false := (u8k 116 (by decide)).trans (decide_eq_false (by rw [k2]; decide))
                have q7 : ((s[a].toNat : Int) == 84) = true := (u8k 84 (by decide)).trans (decide_eq_true k2)
                clear k2
                have HN := Lib.hid (fun w1 (hb : Below w.heap.size w w1) => scan_len s a i vs hR w1 (HW.out w1 hb) (by omega))
                clear hR
                go_wp2_with (first
                  | (go_at_call 11; (with_reducible refine (HNm.out _).mono ?_); rintro e w1 ⟨rfl, rfl⟩)
                  | (go_at_call 9; (with_reducible refine (HN.out _ tb).mono ?_); rintro e w4 ⟨p4, c4, rfl, hb4⟩; replace tb := tb.trans (hb4.mono tb.size); replace hbel := hbel.trans (hb4.mono hbel.size)))
                go_roundw
                case rel => exact ⟨i + 1, by go_num, by omega, tb, hbel⟩
                case measure => simp [intOf]; omega
            · subst k1
              have hts : toB tt = s.extract a (a + 1) := by
                rw [k2, ext_eq, Nat.add_sub_cancel_left]
                have : s.data.toList.drop a = s[a] :: tl s (a + 1) := tl_cons s a hka
                rw [this]; rfl
              rw [hts] at a1
              have z7 : (0 : Int) ≤ (a : Int) := by omega
              have z8 : (a : Int) ≤ (a : Int) + 1 := by omega
              have z9 : (a : Int) + 1 ≤ (s.size : Int) := by omega
              have z10 : IntKind.i64.wrap ((a : Int) + 1) = (a : Int) + 1 := w64 rfl (by omega) (by omega)
              have z11 : ((a : Int) + 1).toNat = a + 1 := by omega
              have HN := Lib.hid (fun w1 (hb : Below w.heap.size w w1) => scan_len s a i vs hR w1 (HW.out w1 hb) (by omega))
              clear hR k2 hts
              go_wp2
              go_quiet (fail)
              replace tb := tb.trans ((below_drawP wr nq).mono tb.size)
              replace hbel := hbel.trans ((below_drawP wr nq).mono hbel.size)
              clear a0 a1 a2 a3
              generalize wr.drewN nq = wq at *
              go_wp2_with (go_at_call 9; (with_reducible refine (HN.out _ tb).mono ?_); rintro e w4 ⟨p4, c4, rfl, hb4⟩; replace tb := tb.trans (hb4.mono tb.size); replace hbel := hbel.trans (hb4.mono hbel.size))
              go_roundw
              case rel => exact ⟨i + 1, by go_num, by omega, tb, hbel⟩
              case measure => simp [intOf]; omega
          · have q2 : decide ((0 : Int) < (i : Int)) = false := decide_eq_false (by omega)
            clear hpr
            rcases hK with ⟨k1, k2, k3⟩ | ⟨k1, k2, k3, k4⟩ | ⟨k1, k2, k3⟩ | ⟨k1, k2⟩ | ⟨k1, k2⟩
            · subst k1
              have hNm := fun w => name_any (toB tt) w (by rw [toB_size]; omega)
              rw [toB_data, k2] at hNm
              have hts := toB_size tt
              generalize toB tt = T at *
              have HNm := Lib.hid hNm
              have q5 : decide ((a : Int) + (T.size : Int) ≤ (s.size : Int)) = true := decide_eq_true (by omega)
              have hTb : T.size ≤ 5000 := by omega
              clear hNm k2 k3 hts
              have HN := Lib.hid (fun w1 (hb : Below w.heap.size w w1) => scan_len s a i vs hR w1 (HW.out w1 hb) (by omega))
              clear hR
              go_wp2_with (first
                | (go_at_call 11; (with_reducible refine (HNm.out _).mono ?_); rintro e w1 ⟨rfl, rfl⟩)
                | (go_at_call 9; (with_reducible refine (HN.out _ tb).mono ?_); rintro e w4 ⟨p4, c4, rfl, hb4⟩; replace tb := tb.trans (hb4.mono tb.size); replace hbel := hbel.trans (hb4.mono hbel.size)))
              go_roundw
              case rel => exact ⟨i + 1, by go_num, by omega, tb, hbel⟩
              case measure => simp [intOf]; omega
            · subst k1
              have hNm := fun w => name_any (toB tt) w (by rw [toB_size]; omega)
              rw [toB_data, k3] at hNm
              generalize toB tt = T at *
              have HNm := Lib.hid hNm
              have q5 : ((s[a].toNat : Int) == 58) = true := (u8k 58 (by decide)).trans (decide_eq_true k2)
              clear hNm k2 k3 k4
              have HN := Lib.hid (fun w1 (hb : Below w.heap.size w w1) => scan_len s a i vs hR w1 (HW.out w1 hb) (by omega))
              clear hR
              go_wp2_with (first
                | (go_at_call 11; (with_reducible refine (HNm.out _).mono ?_); rintro e w1 ⟨rfl, rfl⟩)
                | (go_at_call 9; (with_reducible refine (HN.out _ tb).mono ?_); rintro e w4 ⟨p4, c4, rfl, hb4⟩; replace tb := tb.trans (hb4.mono tb.size); replace hbel := hbel.trans (hb4.mono hbel.size)))
              go_roundw
              case rel => exact ⟨i + 1, by go_num, by omega, tb, hbel⟩
              case measure => simp [intOf]; omega
            · subst k1
              generalize toB tt = T at *
              have k2 := of_decide_eq_true (show decide _ = true from k2)
              have q5 : decide ((48 : Int) ≤ (s[a].toNat : Int)) = true := decide_eq_true (by omega)
              have q6 : decide ((s[a].toNat : Int) ≤ 57) = true := decide_eq_true (by omega)
              have q7 : decide ((0 : Int) ≤ (tn : Int)) = true := decide_eq_true (by omega)
              have q8 : decide ((tn : Int) ≤ 1099511627776) = true := decide_eq_true (by unfold most at k3; omega)
              clear k2 k3
              have HN := Lib.hid (fun w1 (hb : Below w.heap.size w w1) => scan_len s a i vs hR w1 (HW.out w1 hb) (by omega))
              clear hR
              go_wp2_with (first
                | (go_at_call 11; (with_reducible refine (HNm.out _).mono ?_); rintro e w1 ⟨rfl, rfl⟩)
                | (go_at_call 9; (with_reducible refine (HN.out _ tb).mono ?_); rintro e w4 ⟨p4, c4, rfl, hb4⟩; replace tb := tb.trans (hb4.mono tb.size); replace hbel := hbel.trans (hb4.mono hbel.size)))
              go_roundw
              case rel => exact ⟨i + 1, by go_num, by omega, tb, hbel⟩
              case measure => simp [intOf]; omega
            · subst k1
              generalize toB tt = T at *
              rcases k2 with k2 | k2 | k2
              · have q5 : ((s[a].toNat : Int) == 34) = true := (u8k 34 (by decide)).trans (decide_eq_true k2)
                clear k2
                have HN := Lib.hid (fun w1 (hb : Below w.heap.size w w1) => scan_len s a i vs hR w1 (HW.out w1 hb) (by omega))
                clear hR
                go_wp2_with (first
                  | (go_at_call 11; (with_reducible refine (HNm.out _).mono ?_); rintro e w1 ⟨rfl, rfl⟩)
                  | (go_at_call 9; (with_reducible refine (HN.out _ tb).mono ?_); rintro e w4 ⟨p4, c4, rfl, hb4⟩; replace tb := tb.trans (hb4.mono tb.size); replace hbel := hbel.trans (hb4.mono hbel.size)))
                go_roundw
                case rel => exact ⟨i + 1, by go_num, by omega, tb, hbel⟩
                case measure => simp [intOf]; omega
              · have q5 : ((s[a].toNat : Int) == 34) = false := (u8k 34 (by decide)).trans (decide_eq_false (by rw [k2]; decide))
                have q6 : ((s[a].toNat : Int) == 116) = true := (u8k 116 (by decide)).trans (decide_eq_true k2)
                clear k2
                have HN := Lib.hid (fun w1 (hb : Below w.heap.size w w1) => scan_len s a i vs hR w1 (HW.out w1 hb) (by omega))
                clear hR
                go_wp2_with (first
                  | (go_at_call 11; (with_reducible refine (HNm.out _).mono ?_); rintro e w1 ⟨rfl, rfl⟩)
                  | (go_at_call 9; (with_reducible refine (HN.out _ tb).mono ?_); rintro e w4 ⟨p4, c4, rfl, hb4⟩; replace tb := tb.trans (hb4.mono tb.size); replace hbel := hbel.trans (hb4.mono hbel.size)))
                go_roundw
                case rel => exact ⟨i + 1, by go_num, by omega, tb, hbel⟩
                case measure => simp [intOf]; omega
              · have q5 : ((s[a].toNat : Int) == 34) = false := (u8k 34 (by decide)).trans (decide_eq_false (by rw [k2]; decide))
                have q6 : ((s[a].toNat : Int) == 116) = false := (u8k 116 (by decide)).trans (decide_eq_false (by rw [k2]; decide))
                have q7 : ((s[a].toNat : Int) == 84) = true := (u8k 84 (by decide)).trans (decide_eq_true k2)
                clear k2
                have HN := Lib.hid (fun w1 (hb : Below w.heap.size w w1) => scan_len s a i vs hR w1 (HW.out w1 hb) (by omega))
                clear hR
                go_wp2_with (first
                  | (go_at_call 11; (with_reducible refine (HNm.out _).mono ?_); rintro e w1 ⟨rfl, rfl⟩)
                  | (go_at_call 9; (with_reducible refine (HN.out _ tb).mono ?_); rintro e w4 ⟨p4, c4, rfl, hb4⟩; replace tb := tb.trans (hb4.mono tb.size); replace hbel := hbel.trans (hb4.mono hbel.size)))
                go_roundw
                case rel => exact ⟨i + 1, by go_num, by omega, tb, hbel⟩
                case measure => simp [intOf]; omega
            · subst k1
              have hts : toB tt = s.extract a (a + 1) := by
                rw [k2, ext_eq, Nat.add_sub_cancel_left]
                have : s.data.toList.drop a = s[a] :: tl s (a + 1) := tl_cons s a hka
                rw [this]; rfl
              rw [hts] at a1
              have z7 : (0 : Int) ≤ (a : Int) := by omega
              have z8 : (a : Int) ≤ (a : Int) + 1 := by omega
              have z9 : (a : Int) + 1 ≤ (s.size : Int) := by omega
              have z10 : IntKind.i64.wrap ((a : Int) + 1) = (a : Int) + 1 := w64 rfl (by omega) (by omega)
              have z11 : ((a : Int) + 1).toNat = a + 1 := by omega
              have HN := Lib.hid (fun w1 (hb : Below w.heap.size w w1) => scan_len s a i vs hR w1 (HW.out w1 hb) (by omega))
              clear hR k2 hts
              go_wp2
              go_quiet (fail)
              replace tb := tb.trans ((below_drawP wr nq).mono tb.size)
              replace hbel := hbel.trans ((below_drawP wr nq).mono hbel.size)
              clear a0 a1 a2 a3
              generalize wr.drewN nq = wq at *
              go_wp2_with (go_at_call 9; (with_reducible refine (HN.out _ tb).mono ?_); rintro e w4 ⟨p4, c4, rfl, hb4⟩; replace tb := tb.trans (hb4.mono tb.size); replace hbel := hbel.trans (hb4.mono hbel.size))
              go_roundw
              case rel => exact ⟨i + 1, by go_num, by omega, tb, hbel⟩
              case measure => simp [intOf]; omega
      · go_wp2
        go_ret
        exact ⟨rfl, tb⟩
end Go.Proofs.YtiioijkpdkfknaaGreatDoor
