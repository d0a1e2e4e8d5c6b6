/- Walks: fold.Equal, Holds, Glob for every collation; the comparing of rows of strings; few. -/
import Derived.Test.YtlbnhkojfefccaaDoorFd9
import Derived.Test.YtlbnhkojfefccaaDoorFdG
namespace Go.Proofs.YtlbnhkojfefccaaDoor
open Go.RowKit Pk U8 Su Fo

/-- what the walks lean on -/
structure Rd (w : World) : Prop where
  spans : Spans w
  max : ∃ m, w.cell? ⟨1, 0, none⟩ = some (.int .i64 m)
theorem Rd.later {w w' : World} (h : Rd w) (hb : Below w.heap.size w w') : Rd w' := ⟨h.spans.later hb, by obtain ⟨m, h2⟩ := h.max; exact ⟨m, cell_later hb h2⟩⟩
theorem ownsS.seesS {w : World} {B : Nat} {e : TypeId} {v : Value} {l : List ByteArray} (h : ownsS w B e v l) : seesS w v l := by
  rcases h.form with ⟨h1, h2⟩ | ⟨g, cap, h1, -, h2, -, h3⟩
  · subst h2; exact ⟨none, 0, h1, Nat.le_refl _, .inl rfl⟩
  · exact ⟨_, cap, h1, h2, .inr ⟨g, 0, rfl, fun j hj => by rw [Nat.zero_add]; exact h3 j hj⟩⟩
theorem seesS.later {w w' : World} {v : Value} {l : List ByteArray} (h : seesS w v l) (hb : Below w.heap.size w w') : seesS w' v l := by
  obtain ⟨p, c, h1, h2, h3⟩ := h
  refine ⟨p, c, h1, h2, ?_⟩
  rcases h3 with h3 | ⟨g, o, h4, h5⟩
  · exact .inl h3
  · exact .inr ⟨g, o, h4, fun j hj => cell_later hb (h5 j hj)⟩
def eqT (a b : List ByteArray) : Bool := decide (a = b)
theorem eqT_step {a b : List ByteArray} {i : Nat} {X : Bool} (h : Hid (eqT (a.drop i) (b.drop i) = X)) (ha : i < a.length) (hb : i < b.length) :
    ((a[i].toList == b[i].toList) = true → Hid (eqT (a.drop (i + 1)) (b.drop (i + 1)) = X)) ∧ ((a[i].toList == b[i].toList) = false → X = false) := by
  have e := h.out
  rw [List.drop_eq_getElem_cons ha, List.drop_eq_getElem_cons hb] at e
  unfold eqT at e
  refine ⟨fun h1 => ?_, fun h1 => ?_⟩
  · rw [beq_iff_eq, Lib.toList_data, Lib.toList_data] at h1
    have h2 := ba_ext h1
    show _ = _
    rw [← e, h2]
    unfold eqT
    exact decide_eq_decide.2 ⟨fun h => by rw [h], fun h => by injection h⟩
  · rw [← e]
    refine decide_eq_false fun h2 => ?_
    injection h2 with h2 _
    rw [h2] at h1
    simp at h1
set_option maxRecDepth 100000 in
theorem sameT_any (va vb : Value) (a b : List ByteArray) (w : World) (hA : seesS w va a) (hB : seesS w vb b) (la : a.length ≤ 1000000) (lb : b.length ≤ 1000000) :
    Calls Tryd.prog 9 #[va, vb] w fun e w' => e = .returned (.bool (eqT a b)) ∧ Below w.heap.size w w' := by
  obtain ⟨pa, ca, rfl, hca, hA⟩ := hA
  obtain ⟨pb, cb, rfl, hcb, hB⟩ := hB
  by_cases hl : a.length = b.length
  · have q1 : ((a.length : Int) != (b.length : Int)) = false := by rw [hl]; simp
    have hz : Hid (eqT (a.drop 0) (b.drop 0) = eqT a b) := rfl
    generalize eqT a b = X at hz ⊢
    have HA := Lib.hid hA
    have HB := Lib.hid hB
    have l1 : a.length ≤ b.length := by omega
    have l2 : b.length ≤ a.length := by omega
    clear hA hB hl
    go_enter Tryd.func9, Tryd.ntmps9
    go_wp2
    go_loopw [5] (fun iv wr => ∃ (i : Nat), iv = .int .i64 i ∧ Below w.heap.size w wr ∧ i ≤ a.length ∧ Hid (eqT (a.drop i) (b.drop i) = X)) (fun iv _ => a.length - (intOf iv).toNat)
    case atStart => exact ⟨0, by first | rfl | trivial, Below.refl _ _, by omega, hz⟩
    case round =>
      clear hz
      obtain ⟨i, rfl, hbel, hi, hrel⟩ := hrel
      by_cases hlt : i < a.length
      · obtain ⟨s1, s2⟩ := eqT_step hrel hlt (by omega)
        rcases HA.out with h0 | ⟨ga, oa, rfl, hca2⟩
        · rw [h0, List.length_nil] at hlt; omega
        · rcases HB.out with h0 | ⟨gb, ob, rfl, hcb2⟩
          · rw [h0, List.length_nil] at l1; omega
          · have c1 := cell_later hbel (hca2 i hlt)
            have c2 := cell_later hbel (hcb2 i (by omega))
            have hlt2 : i < b.length := by omega
            clear hca2 hcb2
            cases hq : (a[i].toList == b[i].toList) with
            | true =>
              have hd := s1 hq
              clear s1 s2 hrel
              go_wp2
              go_region
              go_wp2
              go_roundw
              case rel => exact ⟨i + 1, by go_num, hbel.drew, by omega, hd⟩
              case measure => simp [intOf]; omega
            | false =>
              obtain rfl := s2 hq
              clear s1 s2 hrel
              go_wp2
              go_region
              go_wp2
              go_ret
              exact ⟨rfl, hbel.drew⟩
      · have e := hrel.out
        rw [List.drop_eq_nil_of_le (show a.length ≤ i by omega), List.drop_eq_nil_of_le (show b.length ≤ i by omega)] at e
        obtain rfl : X = true := by rw [← e]; rfl
        clear hrel e
        go_wp2
        go_ret
        exact ⟨rfl, hbel⟩
  · have q1 : ((a.length : Int) != (b.length : Int)) = true := by rw [bne_iff_ne]; omega
    have hX : eqT a b = false := decide_eq_false fun h => hl (by rw [h])
    rw [hX]
    clear hA hB hl hX
    go_enter Tryd.func9, Tryd.ntmps9
    go_wp2
    go_ret
    exact ⟨rfl, Below.refl _ _⟩
/-- Glob for every collation -/
def globR (comp : Int) (pat s : List UInt8) : Option (List ByteArray) := if comp = 3 then none else globL comp pat s
theorem glob_rd (comp : Int) (pat s : ByteArray) (w : World) (h : Rd w) (hs : s.size ≤ 100000) (hp : pat.size ≤ 100000) : Calls Tryd.prog 19 #[.int .i64 comp, .string pat, .string s] w (GlobIs (globR comp pat.data.toList s.data.toList) w) := by
  unfold globR
  by_cases hc : comp = 3
  · subst hc
    rw [if_pos rfl]
    exact (glob_num pat s w).mono fun e w' hg => by
      obtain ⟨v, h⟩ | ⟨h1, h2⟩ : (∃ v : Unit, False) ∨ (e = .returned (.tuple #[.slice none 0 0, .bool false]) ∧ Below w.heap.size w w') := .inr hg
      · exact h.elim
      · exact ⟨h1, h2⟩
  · rw [if_neg hc]
    exact glob_any comp pat s w h.spans hs hp hc (units_key_len comp _)
theorem fold_rd (s : ByteArray) (w : World) (h : Rd w) (hs : s.size ≤ 10000000) : Calls Tryd.prog 12 #[.string s] w fun e w' => e = .returned (.string ⟨(foldL s.data.toList).toArray⟩) ∧ Below w.heap.size w w' := by
  obtain ⟨b, off, cap, hS⟩ := h.spans
  exact foldP_any s w hs b off cap hS
def eqF (a b : List UInt8) : Bool := foldL a == foldL b
set_option maxRecDepth 100000 in
theorem equal_rd (a b : ByteArray) (w : World) (h : Rd w) (ha : a.size ≤ 10000000) (hb : b.size ≤ 10000000) : Calls Tryd.prog 14 #[.string a, .string b] w fun e w' => e = .returned (.bool (eqF a.data.toList b.data.toList)) ∧ Below w.heap.size w w' := by
  have hA := fun w' (hb : Below w.heap.size w w') => fold_rd a w' (h.later hb) ha
  have hB := fun w' (hb : Below w.heap.size w w') => fold_rd b w' (h.later hb) (by assumption)
  unfold eqF
  obtain ⟨X, hX, hXl, -⟩ : ∃ X : ByteArray, X = ⟨(foldL a.data.toList).toArray⟩ ∧ X.data.toList = foldL a.data.toList ∧ X.size = (foldL a.data.toList).length := ⟨_, rfl, by simp, by simp [ByteArray.size]⟩
  obtain ⟨Y, hY, hYl, -⟩ : ∃ X : ByteArray, X = ⟨(foldL b.data.toList).toArray⟩ ∧ X.data.toList = foldL b.data.toList ∧ X.size = (foldL b.data.toList).length := ⟨_, rfl, by simp, by simp [ByteArray.size]⟩
  rw [← hX] at hA
  rw [← hY] at hB
  rw [← hXl, ← hYl, ← Lib.toList_data, ← Lib.toList_data]
  obtain ⟨v, hv⟩ : ∃ v, (X.toList == Y.toList) = v := ⟨_, rfl⟩
  rw [hv]
  have HA := Lib.hid hA
  have HB := Lib.hid hB
  have tb := Below.refl w.heap.size w
  clear hA hB hX hY hXl hYl h
  go_enter Tryd.func14, Tryd.ntmps14
  go_wp2_with (first
    | (go_at_call 12; (with_reducible refine (HA.out _ tb).mono ?_); rintro e w1 ⟨rfl, hb1⟩; have tb := tb.trans (hb1.mono tb.size))
    | (go_at_call 12; (with_reducible refine (HB.out _ tb).mono ?_); rintro e w1 ⟨rfl, hb1⟩; have tb := tb.trans (hb1.mono tb.size)))
  go_ret
  exact ⟨by rw [← hv]; rfl, tb⟩
def holdsL (comp mt : Int) (s key : List UInt8) : Bool :=
  if mt = 1 then ordL comp s key == 0
  else if mt = 2 then comp != 3 && Lib.contains (keyL comp s) (keyL comp key)
  else if mt = 3 then (globR comp key s).isSome
  else if mt = 4 then decide (0 < ordL comp s key)
  else if mt = 5 then decide (ordL comp s key < 0)
  else false
theorem order_rd (comp : Int) (a b : ByteArray) (w : World) (h : Rd w) (ha : a.size ≤ 10000000) (hb : b.size ≤ 10000000) : Calls Tryd.prog 16 #[.int .i64 comp, .string a, .string b] w fun e w' => e = .returned (.int .i64 (ordL comp a.data.toList b.data.toList)) ∧ Below w.heap.size w w' :=
  order_any comp a b w h.spans ha hb
theorem contains_rd (s sub : ByteArray) (w : World) (h : Rd w) (hs : s.size ≤ 10000000) : Calls Tryd.prog 42 #[.string s, .string sub] w fun e w' => e = .returned (.bool (Lib.contains s.data.toList sub.data.toList)) ∧ w' = w := by
  obtain ⟨m, hm⟩ := h.max
  exact Tryd.strings_Contains s sub m w (by omega) hm
set_option maxHeartbeats 1000000 in
set_option maxRecDepth 100000 in
theorem holds_rd (comp mt : Int) (s key : ByteArray) (w : World) (h : Rd w) (hs : s.size ≤ 100000) (hk : key.size ≤ 100000) :
    Calls Tryd.prog 21 #[.int .i64 comp, .int .i64 mt, .string s, .string key] w fun e w' => e = .returned (.bool (holdsL comp mt s.data.toList key.data.toList)) ∧ Below w.heap.size w w' := by
  have hO := order_rd comp s key w h (by omega) (by omega)
  unfold holdsL
  by_cases h1 : mt = 1
  · subst h1
    rw [if_pos rfl]
    generalize ordL comp s.data.toList key.data.toList = v at hO ⊢
    have HO := Lib.hid hO
    clear hO h
    go_enter Tryd.func21, Tryd.ntmps21
    go_wp2_with (go_at_call 16; (with_reducible refine HO.out.mono ?_); rintro e w1 ⟨rfl, hb1⟩)
    go_ret
    exact ⟨rfl, hb1⟩
  · have q1 : (mt == 1) = false := beq_eq_false_iff_ne.2 h1
    rw [if_neg h1]
    by_cases h2 : mt = 2
    · subst h2
      rw [if_pos rfl]
      by_cases hc : comp = 3
      · subst hc
        clear hO h
        go_enter Tryd.func21, Tryd.ntmps21
        go_wp2
        go_ret
        exact ⟨rfl, Below.refl _ _⟩
      · have qc : (comp != 3) = true := by rw [bne_iff_ne]; exact hc
        rw [qc, Bool.true_and]
        have l1 := keyL_len comp s.data.toList
        have l2 : s.data.toList.length = s.size := rfl
        have hA := fun w' (hb : Below w.heap.size w w') => key_any comp s w' (h.spans.later hb) (by omega)
        have hB := fun w' (hb : Below w.heap.size w w') => key_any comp key w' (h.spans.later hb) (by omega)
        obtain ⟨X, hX, hXl, hXs⟩ : ∃ X : ByteArray, X = ⟨(keyL comp s.data.toList).toArray⟩ ∧ X.data.toList = keyL comp s.data.toList ∧ X.size = (keyL comp s.data.toList).length := ⟨_, rfl, by simp, by simp [ByteArray.size]⟩
        obtain ⟨Y, hY, hYl, -⟩ : ∃ X : ByteArray, X = ⟨(keyL comp key.data.toList).toArray⟩ ∧ X.data.toList = keyL comp key.data.toList ∧ X.size = (keyL comp key.data.toList).length := ⟨_, rfl, by simp, by simp [ByteArray.size]⟩
        rw [← hX] at hA
        rw [← hY] at hB
        rw [← hXl, ← hYl]
        have hC := fun w' (hb : Below w.heap.size w w') => contains_rd X Y w' (h.later hb) (by omega)
        generalize Lib.contains X.data.toList Y.data.toList = v at hC ⊢
        have HA := Lib.hid hA
        have HB := Lib.hid hB
        have HC := Lib.hid hC
        have tb := Below.refl w.heap.size w
        clear hA hB hC hX hY hXl hYl h hO l1 l2 hXs hc h1
        go_enter Tryd.func21, Tryd.ntmps21
        go_wp2_with (first
          | (go_at_call 31; (with_reducible refine (HA.out _ tb).mono ?_); rintro e w1 ⟨rfl, hb1⟩; have tb := tb.trans (hb1.mono tb.size))
          | (go_at_call 31; (with_reducible refine (HB.out _ tb).mono ?_); rintro e w1 ⟨rfl, hb1⟩; have tb := tb.trans (hb1.mono tb.size))
          | (go_at_call 42; (with_reducible refine (HC.out _ tb).mono ?_); rintro e w2 ⟨rfl, rfl⟩))
        go_ret
        exact ⟨rfl, tb⟩
    · have q2 : (mt == 2) = false := beq_eq_false_iff_ne.2 h2
      rw [if_neg h2]
      by_cases h3 : mt = 3
      · subst h3
        rw [if_pos rfl]
        have hG := glob_rd comp key s w h hs hk
        generalize globR comp key.data.toList s.data.toList = R at hG ⊢
        cases R with
        | none =>
          have HG := Lib.hid hG
          clear hG hO h
          go_enter Tryd.func21, Tryd.ntmps21
          go_wp2_with (go_at_call 19; (with_reducible refine HG.out.mono ?_); rintro e w1 ⟨rfl, hb1⟩)
          go_ret
          exact ⟨rfl, hb1⟩
        | some out =>
          have HG := Lib.hid hG
          clear hG hO h
          go_enter Tryd.func21, Tryd.ntmps21
          go_wp2_with (go_at_call 19; (with_reducible refine HG.out.mono ?_); rintro e w1 ⟨v, rfl, hown, hb1⟩)
          go_ret
          exact ⟨rfl, hb1⟩
      · have q3 : (mt == 3) = false := beq_eq_false_iff_ne.2 h3
        rw [if_neg h3]
        by_cases h4 : mt = 4
        · subst h4
          rw [if_pos rfl]
          generalize ordL comp s.data.toList key.data.toList = v at hO ⊢
          have HO := Lib.hid hO
          clear hO h
          go_enter Tryd.func21, Tryd.ntmps21
          go_wp2_with (go_at_call 16; (with_reducible refine HO.out.mono ?_); rintro e w1 ⟨rfl, hb1⟩)
          go_ret
          exact ⟨rfl, hb1⟩
        · have q4 : (mt == 4) = false := beq_eq_false_iff_ne.2 h4
          rw [if_neg h4]
          by_cases h5 : mt = 5
          · subst h5
            rw [if_pos rfl]
            generalize ordL comp s.data.toList key.data.toList = v at hO ⊢
            have HO := Lib.hid hO
            clear hO h
            go_enter Tryd.func21, Tryd.ntmps21
            go_wp2_with (go_at_call 16; (with_reducible refine HO.out.mono ?_); rintro e w1 ⟨rfl, hb1⟩)
            go_ret
            exact ⟨rfl, hb1⟩
          · have q5 : (mt == 5) = false := beq_eq_false_iff_ne.2 h5
            rw [if_neg h5]
            clear hO h h1 h2 h3 h4 h5
            go_enter Tryd.func21, Tryd.ntmps21
            go_wp2
            go_ret
            exact ⟨rfl, Below.refl _ _⟩
theorem few_any (a b : ByteArray) (w : World) : Calls Tryd.prog 18 #[.string a, .string b] w fun e w' => e = .returned (.bool (decide (a.size ≤ 300) && decide (b.size ≤ 60))) ∧ w = w' := by
  by_cases h : a.size ≤ 300
  · rw [decide_eq_true h, Bool.true_and]
    by_cases h2 : b.size ≤ 60
    · rw [decide_eq_true h2]
      go_enter Tryd.func18, Tryd.ntmps18
      go_wp2
      go_ret
      exact ⟨by simp; omega, rfl⟩
    · rw [decide_eq_false h2]
      go_enter Tryd.func18, Tryd.ntmps18
      go_wp2
      go_ret
      exact ⟨by simp; omega, rfl⟩
  · rw [decide_eq_false h, Bool.false_and]
    have hh : ¬ (a.size : Int) ≤ 300 := by omega
    go_enter Tryd.func18, Tryd.ntmps18
    go_wp2
    go_ret
    exact ⟨by simp, rfl⟩
end Go.Proofs.YtlbnhkojfefccaaDoor
