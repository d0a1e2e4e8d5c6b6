/- Walks: the law LexBack: written, a list of tokens as it is handed in. -/
import Derived.Test.YtiioijkpdkfknaaGreatDoorLxF
namespace Lx
open Go Pk Go.Proofs.YtiioijkpdkfknaaGreatDoor
/-- is the text one mark -/
def markT (t : List UInt8) : Bool := match t with | [c] => isMk c | _ => false
/-- the source form -/
def wL (x : Lex) : List UInt8 :=
  if x.k = 1 then (if nameB x.t.data.toList = true then x.t.data.toList else [])
  else if x.k = 2 then (if nameB x.t.data.toList = true then 58 :: x.t.data.toList else [])
  else if x.k = 3 then (if 0 ≤ x.n ∧ x.n < 1000000000000 then Lib.decDigits x.n.toNat else [])
  else if x.k = 4 then textL x.t.data.toList
  else if x.k = 5 then (if markT x.t.data.toList = true then x.t.data.toList else [])
  else []
/-- the token that it stands for -/
def tW (x : Lex) : Tok := ⟨x.k.toNat, if x.k = 3 then [] else x.t.data.toList, if x.k = 3 then x.n.toNat else 0⟩
theorem wL_wr {x : Lex} (h : wL x ≠ []) : Wr (wL x) (tW x) ∧ 0 ≤ x.k ∧ (x.k = 3 → 0 ≤ x.n) := by
  unfold wL at h ⊢
  unfold tW
  by_cases h1 : x.k = 1
  · rw [if_pos h1] at h ⊢
    by_cases hn : nameB x.t.data.toList = true
    · rw [if_pos hn]
      refine ⟨?_, by omega, fun h => by omega⟩
      rw [if_neg (by omega), if_neg (by omega), h1]
      exact wr_name hn
    · rw [if_neg hn] at h; exact absurd rfl h
  · rw [if_neg h1] at h ⊢
    by_cases h2 : x.k = 2
    · rw [if_pos h2] at h ⊢
      by_cases hn : nameB x.t.data.toList = true
      · rw [if_pos hn]
        refine ⟨?_, by omega, fun h => by omega⟩
        rw [if_neg (by omega), if_neg (by omega), h2]
        exact wr_tag hn
      · rw [if_neg hn] at h; exact absurd rfl h
    · rw [if_neg h2] at h ⊢
      by_cases h3 : x.k = 3
      · rw [if_pos h3] at h ⊢
        by_cases hn : 0 ≤ x.n ∧ x.n < 1000000000000
        · rw [if_pos hn]
          refine ⟨?_, by omega, fun _ => hn.1⟩
          rw [if_pos h3, if_pos h3, h3]
          exact wr_num (by omega)
        · rw [if_neg hn] at h; exact absurd rfl h
      · rw [if_neg h3] at h ⊢
        rw [if_neg h3, if_neg h3]
        by_cases h4 : x.k = 4
        · rw [if_pos h4] at h ⊢
          refine ⟨?_, by omega, fun h => by omega⟩
          rw [h4]
          exact wr_text _
        · rw [if_neg h4] at h ⊢
          by_cases h5 : x.k = 5
          · rw [if_pos h5] at h ⊢
            by_cases hn : markT x.t.data.toList = true
            · rw [if_pos hn]
              refine ⟨?_, by omega, fun h => by omega⟩
              rw [h5]
              unfold markT at hn
              match ht : x.t.data.toList, hn with
              | [c], hn => exact wr_mark hn
            · rw [if_neg hn] at h; exact absurd rfl h
          · rw [if_neg h5] at h; exact absurd rfl h
theorem wL_len (x : Lex) (h : x.t.size ≤ 200) : (wL x).length ≤ 410 := by
  have hl : x.t.data.toList.length = x.t.size := rfl
  unfold wL
  split
  · split <;> simp; omega
  · split
    · split <;> simp; omega
    · split
      · split
        · rename_i h3
          have := dd_len 11 x.n.toNat (by omega)
          omega
        · simp
      · split
        · unfold textL
          have := esc_len x.t.data.toList
          rw [List.length_cons, List.length_append, List.length_singleton]; omega
        · split
          · split <;> simp; omega
          · simp
theorem lexOf_tW {x : Lex} (h0 : 0 ≤ x.k) (h3 : x.k = 3 → 0 ≤ x.n) (a : Nat) : lexOf (tW x, a) = ⟨x.k, if x.k = 3 then ⟨#[]⟩ else x.t, if x.k = 3 then x.n else 0, a⟩ := by
  unfold lexOf tW
  by_cases h : x.k = 3
  · have := h3 h
    simp only [if_pos h]
    refine lex_ext ?_ rfl ?_ rfl
    · show ((x.k.toNat : Nat) : Int) = x.k; omega
    · show ((x.n.toNat : Nat) : Int) = x.n; omega
  · simp only [if_neg h]
    refine lex_ext ?_ ?_ rfl rfl
    · show ((x.k.toNat : Nat) : Int) = x.k; omega
    · show (⟨x.t.data.toList.toArray⟩ : ByteArray) = x.t; simp
end Lx
namespace Go.Proofs.YtiioijkpdkfknaaGreatDoor
open Go.RowKit Pk Lx C1

theorem mark_no {t : ByteArray} (h : ¬ markT t.data.toList = true) (c : UInt8) (hc : isMk c = true) : (t.toList == [c]) = false := by
  rw [Lib.toList_data, beq_eq_false_iff_ne]
  intro e
  apply h
  rw [e]
  exact hc
theorem mark_is {t : ByteArray} (h : markT t.data.toList = true) : ∃ c, t = ⟨#[c]⟩ ∧ isMk c = true := by
  unfold markT at h
  match ht : t.data.toList, h with
  | [c], h =>
    refine ⟨c, ?_, h⟩
    cases t with
    | mk d =>
      congr 1
      apply Array.toList_inj.1
      exact ht
theorem colon_mk (s : ByteArray) : toB (58 :: s.data.toList) = ⟨#[58]⟩ ++ s := by
  have : ∀ a b : ByteArray, a.data = b.data → a = b := fun a b h => by cases a; cases b; congr 1
  apply this
  rw [ByteArray.data_append]
  unfold toB
  simp
set_option maxHeartbeats 4000000 in
set_option maxRecDepth 100000 in
theorem written_any (x : Lex) (w : World) (hT : TabN w) (h0 : -9223372036854775808 ≤ x.n) (h1 : x.n ≤ 9223372036854775807) (hs : x.t.size ≤ 200) : Calls Tryz.prog 12 #[.agg #[.int .i64 x.k, .string x.t, .int .i64 x.n, .int .i64 x.a]] w fun e w' => e = .returned (.string (toB (wL x))) ∧ Below w.heap.size w w' := by
  have hA : ∀ cs, Below w.heap.size w (w.alloc cs) := fun cs => (Below.refl _ w).alloc (Nat.le_refl _) _
  have HB := Lib.hid (fun cs => hT.later (hA cs))
  have HA := Lib.hid hA
  have hX : wL x = wL x := rfl
  conv at hX => rhs; unfold wL
  generalize wL x = X at *
  obtain ⟨x0, x1, x2, x3⟩ := x
  simp only at hX h0 h1 hs ⊢
  have hN := fun w => name_any x1 w (by omega)
  have hL := fun w => lexText_any x1 w (by omega)
  have HTx := Lib.hid (fun w hT => text_any x2 w h0 h1 hT)
  clear hT hA
  by_cases k1 : x0 = 1
  · rw [if_pos k1] at hX
    subst k1
    cases hn : nameB x1.data.toList with
    | true =>
      rw [hn] at hN hX
      have HN := Lib.hid hN
      have HX := Lib.hid (show X = x1.data.toList from hX)
      clear hN hX hn hL
      go_enter Tryz.func12, Tryz.ntmps12
      go_wp2_with (go_at_call 11; (with_reducible refine (HN.out _).mono ?_); rintro e w1 ⟨rfl, rfl⟩)
      go_ret
      exact ⟨by rw [HX.out, toB_back]; rfl, HA.out _⟩
    | false =>
      rw [hn] at hN hX
      have HN := Lib.hid hN
      have HX := Lib.hid (show X = [] from hX)
      clear hN hX hn hL
      go_enter Tryz.func12, Tryz.ntmps12
      go_wp2_with (go_at_call 11; (with_reducible refine (HN.out _).mono ?_); rintro e w1 ⟨rfl, rfl⟩)
      go_ret
      exact ⟨by rw [HX.out]; rfl, HA.out _⟩
  · have q1 : ((x0 : Int) == 1) = false := beq_eq_false_iff_ne.2 k1
    rw [if_neg k1] at hX
    clear k1
    by_cases k2 : x0 = 2
    · rw [if_pos k2] at hX
      have q2 : ((x0 : Int) == 2) = true := beq_iff_eq.2 k2
      clear k2
      cases hn : nameB x1.data.toList with
      | true =>
        rw [hn] at hN hX
        have HN := Lib.hid hN
        have HX := Lib.hid (show X = 58 :: x1.data.toList from hX)
        clear hN hX hn hL
        go_enter Tryz.func12, Tryz.ntmps12
        go_wp2_with (go_at_call 11; (with_reducible refine (HN.out _).mono ?_); rintro e w1 ⟨rfl, rfl⟩)
        go_ret
        exact ⟨by rw [HX.out, colon_mk]; rfl, HA.out _⟩
      | false =>
        rw [hn] at hN hX
        have HN := Lib.hid hN
        have HX := Lib.hid (show X = [] from hX)
        clear hN hX hn hL
        go_enter Tryz.func12, Tryz.ntmps12
        go_wp2_with (go_at_call 11; (with_reducible refine (HN.out _).mono ?_); rintro e w1 ⟨rfl, rfl⟩)
        go_ret
        exact ⟨by rw [HX.out]; rfl, HA.out _⟩
    · have q2 : ((x0 : Int) == 2) = false := beq_eq_false_iff_ne.2 k2
      rw [if_neg k2] at hX
      clear k2 hN
      by_cases k3 : x0 = 3
      · rw [if_pos k3] at hX
        have q3 : ((x0 : Int) == 3) = true := beq_iff_eq.2 k3
        clear k3 hL
        by_cases h3 : 0 ≤ x2
        · have q6 : decide ((0 : Int) ≤ x2) = true := decide_eq_true h3
          by_cases h4 : x2 < 1000000000000
          · rw [if_pos ⟨h3, h4⟩, ← itoa_pos h3] at hX
            have q7 : decide (x2 < (1000000000000 : Int)) = true := decide_eq_true h4
            have HX := Lib.hid hX
            clear hX
            go_enter Tryz.func12, Tryz.ntmps12
            go_wp2_with (go_at_call 17; (with_reducible refine (HTx.out _ (HB.out _)).mono ?_); rintro e w1 ⟨rfl, hb1⟩)
            go_ret
            exact ⟨by rw [HX.out]; rfl, (HA.out _).trans (hb1.mono (HA.out _).size)⟩
          · rw [if_neg (fun h => h4 h.2)] at hX
            have q7 : decide (x2 < (1000000000000 : Int)) = false := decide_eq_false h4
            have HX := Lib.hid hX
            clear hX
            go_enter Tryz.func12, Tryz.ntmps12
            go_wp2
            go_ret
            exact ⟨by rw [HX.out]; rfl, HA.out _⟩
        · rw [if_neg (fun h => h3 h.1)] at hX
          have q6 : decide ((0 : Int) ≤ x2) = false := decide_eq_false h3
          have HX := Lib.hid hX
          clear hX
          go_enter Tryz.func12, Tryz.ntmps12
          go_wp2
          go_ret
          exact ⟨by rw [HX.out]; rfl, HA.out _⟩
      · have q3 : ((x0 : Int) == 3) = false := beq_eq_false_iff_ne.2 k3
        rw [if_neg k3] at hX
        clear k3
        by_cases k4 : x0 = 4
        · rw [if_pos k4] at hX
          have q4 : ((x0 : Int) == 4) = true := beq_iff_eq.2 k4
          clear k4
          have HL := Lib.hid hL
          have HX := Lib.hid hX
          clear hL hX
          go_enter Tryz.func12, Tryz.ntmps12
          go_wp2_with (go_at_call 14; (with_reducible refine (HL.out _).mono ?_); rintro e w1 ⟨rfl, hb1⟩)
          go_ret
          exact ⟨by rw [HX.out]; rfl, (HA.out _).trans (hb1.mono (HA.out _).size)⟩
        · have q4 : ((x0 : Int) == 4) = false := beq_eq_false_iff_ne.2 k4
          rw [if_neg k4] at hX
          clear k4 hL
          by_cases k5 : x0 = 5
          · rw [if_pos k5] at hX
            have q5 : ((x0 : Int) == 5) = true := beq_iff_eq.2 k5
            clear k5
            by_cases hm : markT x1.data.toList = true
            · rw [if_pos hm] at hX
              obtain ⟨c, rfl, hc⟩ := mark_is hm
              have HX := Lib.hid (show toB X = ⟨#[c]⟩ by rw [hX, toB_back])
              have hc := of_decide_eq_true (show decide _ = true from hc)
              clear hm hX
              rcases hc with rfl | rfl | rfl | rfl | rfl | rfl | rfl | rfl
              all_goals
                go_enter Tryz.func12, Tryz.ntmps12
                go_wp2
                go_ret
                exact ⟨by rw [HX.out]; rfl, HA.out _⟩
            · rw [if_neg hm] at hX
              have m91 : (x1.toList == [91]) = false := mark_no hm 91 (by decide)
              have m93 : (x1.toList == [93]) = false := mark_no hm 93 (by decide)
              have m40 : (x1.toList == [40]) = false := mark_no hm 40 (by decide)
              have m41 : (x1.toList == [41]) = false := mark_no hm 41 (by decide)
              have m123 : (x1.toList == [123]) = false := mark_no hm 123 (by decide)
              have m125 : (x1.toList == [125]) = false := mark_no hm 125 (by decide)
              have m44 : (x1.toList == [44]) = false := mark_no hm 44 (by decide)
              have m59 : (x1.toList == [59]) = false := mark_no hm 59 (by decide)
              have HX := Lib.hid hX
              clear hm hX
              go_enter Tryz.func12, Tryz.ntmps12
              go_wp2
              go_ret
              exact ⟨by rw [HX.out]; rfl, HA.out _⟩
          · rw [if_neg k5] at hX
            have q5 : ((x0 : Int) == 5) = false := beq_eq_false_iff_ne.2 k5
            have HX := Lib.hid hX
            clear k5 hX
            go_enter Tryz.func12, Tryz.ntmps12
            go_wp2
            go_ret
            exact ⟨by rw [HX.out]; rfl, HA.out _⟩
theorem adds_nil : Adds (⟨#[]⟩ : ByteArray).data.toList [] := Adds.nil
theorem adds_snoc {S W : ByteArray} {us : List (Lx.Tok × Nat)} {x : Lex} (h : Adds S.data.toList us) (hW : W.data.toList = wL x) (hne : wL x ≠ []) : Adds (S ++ W ++ ⟨#[32]⟩ : ByteArray).data.toList (us ++ [(tW x, S.size)]) := by
  have := h.snoc (wL_wr hne).1
  rw [append_ba, append_ba, hW]
  exact this
set_option maxHeartbeats 8000000 in
set_option maxRecDepth 100000 in
theorem lexBack_any (v : Value) (L : List Lex) (w : World) (hw : LW w) (hT : TabN w) (hL : LexSees w v L) (hl : L.length ≤ 9223372036854775807) (hr : ∀ x ∈ L, -9223372036854775808 ≤ x.n ∧ x.n ≤ 9223372036854775807) : Calls Tryz.prog 6 #[v] w (TrueRet w) := by
  have HW := Lib.hid (fun w1 (hb : Below w.heap.size w w1) => hw.later hb)
  have HT := Lib.hid (fun w1 (hb : Below w.heap.size w w1) => hT.later hb)
  have HSm := Lib.hid (small_any w hw)
  obtain ⟨p, c, rfl, hlc, hcells⟩ := hL
  clear hw hT
  by_cases hs : 40 < L.length
  · have q : decide ((40 : Int) < (L.length : Int)) = true := decide_eq_true (by omega)
    go_enter Tryz.func6, Tryz.ntmps6
    go_wp2_with (go_at_call 8; (with_reducible refine HSm.out.mono ?_); rintro e w1 ⟨rfl, hb1⟩)
    go_ret
    exact ⟨rfl, hb1⟩
  · have q : decide ((40 : Int) < (L.length : Int)) = false := decide_eq_false (by omega)
    have HC := Lib.hid hcells
    have HR := Lib.hid hr
    clear hcells hr
    go_enter Tryz.func6, Tryz.ntmps6
    go_wp2_with (go_at_call 8; (with_reducible refine HSm.out.mono ?_); rintro e w1 ⟨rfl, hb1⟩)
    go_loopw [4, 5, 6] (fun sv wv iv wr => ∃ (i : Nat) (S : ByteArray) (us : List (Lx.Tok × Nat)), iv = .int .i64 i ∧ sv = .string S ∧ i ≤ L.length ∧ ownsG lexLay wr w.heap.size 28 wv (us.map lexOf) ∧ us.length ≤ i ∧ S.size ≤ 411 * i ∧ Below w.heap.size w wr ∧ Hid (Adds S.data.toList us)) (fun _ _ iv _ => L.length - (intOf iv).toNat)
    case atStart => exact ⟨0, ⟨#[]⟩, [], by first | rfl | trivial, rfl, Nat.zero_le _, ownsG.nil _ _ _ _, Nat.zero_le _, Nat.zero_le _, hb1, adds_nil⟩
    case round =>
      clear hb1
      obtain ⟨i, S, us, rfl, rfl, hi, hown, hul, hSz, hbel, hrel⟩ := hrel
      have hsz := hbel.size
      by_cases hlt : i < L.length
      · rcases HC.out with h0 | ⟨g, o, rfl, hcells⟩
        · rw [h0] at hlt; simp at hlt
        · obtain ⟨a0, a1, a2, a3⟩ := hcells i hlt
          obtain ⟨r1, r2⟩ := HR.out _ (List.getElem_mem hlt)
          clear hcells
          generalize L[i] = x at *
          have b0 := cell_later hbel a0
          have b1 := cell_later hbel a1
          have b2 := cell_later hbel a2
          have b3 := cell_later hbel a3
          by_cases ht : 200 < x.t.size
          · have q2 : decide ((200 : Int) < (x.t.size : Int)) = true := decide_eq_true (by omega)
            clear a0 a1 a2 a3 hrel hown
            go_wp2
            go_ret
            exact ⟨rfl, hbel⟩
          · have q2 : decide ((200 : Int) < (x.t.size : Int)) = false := decide_eq_false (by omega)
            have hwl := wL_len x (by omega)
            have hWr := written_any x wr (HT.out wr hbel) r1 r2 (by omega)
            obtain ⟨Wd, hWe, hWd, hWs⟩ := arrE (wL x)
            have hW2 : toB (wL x) = Wd := hWe.symm
            rw [hW2] at hWr
            have HWr := Lib.hid hWr
            by_cases hne : wL x = []
            · have hemp : Wd.toList = [] := by rw [Lib.toList_data, hWd]; exact hne
              clear hWr hWe hWd hWs hW2 hne hwl r1 r2 a0 a1 a2 a3
              go_wp2_with (go_at_call 12; (with_reducible refine HWr.out.mono ?_); rintro e w2 ⟨rfl, hb2⟩)
              go_roundw
              case rel => exact ⟨i + 1, S, us, by go_num, rfl, by omega, hown.below hb2 (Nat.le_refl _), by omega, by omega, hbel.trans (hb2.mono hsz), hrel⟩
              case measure => simp [intOf]; omega
            · have hemp : Wd.toList.isEmpty = false := by
                rw [Lib.toList_data, hWd]
                cases h : wL x with
                | nil => exact absurd h hne
                | cons c r => rfl
              have hnx := Lib.hid (adds_snoc hrel.out hWd hne)
              obtain ⟨-, hk0, hk3⟩ := wL_wr hne
              have hlx := lexOf_tW hk0 hk3 S.size
              have hWb : Wd.size ≤ 410 := by omega
              have hnz : (S ++ Wd ++ ⟨#[32]⟩ : ByteArray).size = S.size + Wd.size + 1 := by rw [ByteArray.size_append, ByteArray.size_append]; rfl
              generalize tW x = tw at *
              obtain ⟨x0, x1, x2, x3⟩ := x
              clear hWr hWe hWd hWs hW2 hne hwl r1 r2 hrel hk0 hk3
              simp only at b0 b1 b2 b3 a0 a1 a2 a3 hlx q2 ht
              by_cases h3 : x0 = 3
              · have q3 : ((x0 : Int) == 3) = true := beq_iff_eq.2 h3
                rw [if_pos h3, if_pos h3] at hlx
                have HLX := Lib.hid hlx
                clear hlx h3
                go_wp2_with (first
                  | (go_at_call 12; (with_reducible refine HWr.out.mono ?_); rintro e w2 ⟨rfl, hb2⟩; have tb := hbel.trans (hb2.mono hsz); have hz2 := hb2.size; replace b0 := cell_later tb a0; replace b1 := cell_later tb a1; replace b2 := cell_later tb a2; replace b3 := cell_later tb a3; have d2 := cell_later (tb.alloc (Nat.le_trans hsz hz2) (.cells #[.int .i64 x0, .string ⟨#[]⟩, .int .i64 0, .int .i64 S.size] 28)) a2)
                  | (at_builtin; go_loud (refine append_g _ rfl (.tmp 61) (.tmp 63) slL rfl w.heap.size _ (us.map lexOf) rfl (ownsG.alloc (ownsG.alloc (hown.below hb2 (Nat.le_refl _)) _) _) ⟨_, 0, none⟩ [⟨x0, ⟨#[]⟩, x2, S.size⟩] 1 1 rfl rfl (cells_at _ _ (by simp) _ _) (by rw [List.length_map]; omega) (by rw [List.length_map]; omega) (by simp; omega) ?_; intro v6 w6 hown6 hg6; have hbB := (tb.alloc (Nat.le_trans hsz hz2) (.cells #[.int .i64 x0, .string ⟨#[]⟩, .int .i64 x2, .int .i64 S.size] 28)).alloc (by simp; omega) (.cells #[.int .i64 x0, .string ⟨#[]⟩, .int .i64 x2, .int .i64 S.size] 28); have hb6 := Below_grownG hbB (ownsG.alloc (ownsG.alloc (hown.below hb2 (Nat.le_refl _)) _) _) hg6 (by simp; omega); clear hg6 hbB)))
                go_roundw
                case rel => exact ⟨i + 1, S ++ Wd ++ ⟨#[32]⟩, us ++ [(tw, S.size)], by go_num, rfl, by omega, by rw [List.map_append, List.map_singleton, HLX.out]; exact hown6, by rw [List.length_append, List.length_singleton]; omega, by omega, hb6, hnx⟩
                case measure => simp [intOf]; omega
              · have q3 : ((x0 : Int) == 3) = false := beq_eq_false_iff_ne.2 h3
                rw [if_neg h3, if_neg h3] at hlx
                have HLX := Lib.hid hlx
                clear hlx h3
                go_wp2_with (first
                  | (go_at_call 12; (with_reducible refine HWr.out.mono ?_); rintro e w2 ⟨rfl, hb2⟩; have tb := hbel.trans (hb2.mono hsz); have hz2 := hb2.size; replace b0 := cell_later tb a0; replace b1 := cell_later tb a1; replace b2 := cell_later tb a2; replace b3 := cell_later tb a3; have d1 := cell_later (tb.alloc (Nat.le_trans hsz hz2) (.cells #[.int .i64 x0, .string ⟨#[]⟩, .int .i64 0, .int .i64 S.size] 28)) a1)
                  | (at_builtin; go_loud (refine append_g _ rfl (.tmp 61) (.tmp 63) slL rfl w.heap.size _ (us.map lexOf) rfl (ownsG.alloc (ownsG.alloc (hown.below hb2 (Nat.le_refl _)) _) _) ⟨_, 0, none⟩ [⟨x0, x1, 0, S.size⟩] 1 1 rfl rfl (cells_at _ _ (by simp) _ _) (by rw [List.length_map]; omega) (by rw [List.length_map]; omega) (by simp; omega) ?_; intro v6 w6 hown6 hg6; have hbB := (tb.alloc (Nat.le_trans hsz hz2) (.cells #[.int .i64 x0, .string x1, .int .i64 0, .int .i64 S.size] 28)).alloc (by simp; omega) (.cells #[.int .i64 x0, .string x1, .int .i64 0, .int .i64 S.size] 28); have hb6 := Below_grownG hbB (ownsG.alloc (ownsG.alloc (hown.below hb2 (Nat.le_refl _)) _) _) hg6 (by simp; omega); clear hg6 hbB)))
                go_roundw
                case rel => exact ⟨i + 1, S ++ Wd ++ ⟨#[32]⟩, us ++ [(tw, S.size)], by go_num, rfl, by omega, by rw [List.map_append, List.map_singleton, HLX.out]; exact hown6, by rw [List.length_append, List.length_singleton]; omega, by omega, hb6, hnx⟩
                case measure => simp [intOf]; omega
      · have hsc := scan_ok S us hrel.out.run
        have HSc := Lib.hid (fun w1 (hb : Below w.heap.size w w1) => hsc w1 (HW.out w1 hb) (by omega))
        have hsW := hown.sees (Nat.le_refl _)
        have eS : sameL (us.map lexOf) (us.map lexOf) = true := (sameL_iff _ _).2 rfl
        have hlm : (us.map lexOf).length ≤ 100000000 := by rw [List.length_map]; omega
        have htb := hbel
        clear hrel hsc hown
        go_wp2_with (first
          | (go_at_call 9; (with_reducible refine (HSc.out _ hbel).mono ?_); rintro e w2 ⟨p2, c2, rfl, hsee, hb2⟩; replace htb := hbel.trans (hb2.mono hsz); replace hsW := hsW.later hb2 (Nat.le_refl _))
          | (go_at_call 10; go_loud (refine (sameL_any _ _ (us.map lexOf) (us.map lexOf) _ hsee hsW hlm).mono ?_; rw [eS]; rintro e w3 ⟨rfl, hb3⟩; replace htb := htb.trans (hb3.mono htb.size))))
        go_ret
        exact ⟨rfl, htb⟩
end Go.Proofs.YtiioijkpdkfknaaGreatDoor
