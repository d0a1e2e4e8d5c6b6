/- Walks: the reference of layer 6: UnQp. -/
import Derived.Test.YtgkbjgmcgbnnaaaDoorRef6e
import Derived.Test.YtgkbjgmcgbnnaaaDoorPlainL6
import Derived.Deep.DeepCutAuto
import Derived.Deep.CutBlock
namespace Go.Proofs.YtgkbjgmcgbnnaaaDoor
open Go.RowKit Pk C6 Hx

def sub (s : ByteArray) (a b : Nat) : List UInt8 := (s.data.toList.drop a).take (b - a)
theorem sub_nil (s : ByteArray) (a b : Nat) (h : b ≤ a) : sub s a b = [] := by
  unfold sub; rw [show b - a = 0 by omega]; rfl
theorem sub_snoc (s : ByteArray) (a b : Nat) (h : a ≤ b) (hb : b < s.size) : sub s a (b + 1) = sub s a b ++ [s[b]] := by
  unfold sub
  rw [show b + 1 - a = (b - a) + 1 by omega]
  rw [List.take_succ_eq_append_getElem (by rw [List.length_drop]; show b - a < s.size - a; omega)]
  congr 2
  rw [List.getElem_drop]
  have e : a + (b - a) = b := by omega
  simp only [e]; rfl
theorem sub_last (s : ByteArray) (a b : Nat) (h : a < b) (hb : b ≤ s.size) : sub s a b = sub s a (b - 1) ++ [s[b - 1]] := by
  have := sub_snoc s a (b - 1) (by omega) (by omega)
  rwa [show b - 1 + 1 = b by omega] at this
theorem sub_length (s : ByteArray) (a b : Nat) (hb : b ≤ s.size) : (sub s a b).length = b - a := by
  unfold sub; rw [List.length_take, List.length_drop]; show min (b - a) (s.size - a) = _; omega
theorem sub_extract (s : ByteArray) (a b : Nat) : (s.extract a b).data.toList = sub s a b := by unfold sub; rw [← Lib.extract_toList, Lib.toList_data]
theorem sub_size (s : ByteArray) (a b : Nat) (hb : b ≤ s.size) : (s.extract a b).size = b - a := by rw [ByteArray.size_extract]; omega
theorem ends1_snoc (c d : UInt8) (l : List UInt8) : ends1 c (l ++ [d]) = (d == c) := by unfold ends1; rw [List.getLast?_append]; simp
theorem trim_snoc (c : UInt8) (l : List UInt8) : Lib.trimRightS (l ++ [c]) [32, 9] = if c = 32 ∨ c = 9 then Lib.trimRightS l [32, 9] else l ++ [c] := by
  unfold Lib.trimRightS
  rw [List.reverse_append, List.reverse_singleton, List.singleton_append, List.dropWhile_cons]
  by_cases h : c = 32 ∨ c = 9
  · rw [if_pos h, if_pos]; rcases h with rfl | rfl <;> decide
  · rw [if_neg h, if_neg]
    · simp
    · simp; exact ⟨fun e => h (.inl e), fun e => h (.inr e)⟩
theorem trim_nil : Lib.trimRightS [] [32, 9] = [] := rfl

/-- the state at a round's head -/
def UqIs (s O : ByteArray) (f i : Nat) : Prop := f ≤ i ∧ O.size ≤ f ∧ (i ≤ s.size → O.data.toList ++ unq (sub s f i) (tl s i) = unQpR s.data.toList) ∧ (s.size < i → O.data.toList = unQpR s.data.toList)
theorem uqr_start (s : ByteArray) : UqIs s ⟨#[]⟩ 0 0 := ⟨by omega, by simp [ByteArray.size], fun _ => by rw [sub_nil _ _ _ (by omega), tl_zero]; rfl, fun h => by omega⟩
theorem uqr_skip {s O : ByteArray} {f i : Nat} (h : UqIs s O f i) (hi : i < s.size) (hc : s[i] ≠ 10) : UqIs s O f (i + 1) := by
  obtain ⟨h1, h2, h3, _⟩ := h
  refine ⟨by omega, h2, fun _ => ?_, fun h => by omega⟩
  have := h3 (by omega)
  rw [tl_cons s i hi, unq, if_neg hc] at this
  rw [sub_snoc s f i h1 hi]; exact this
theorem uqr_line {s O : ByteArray} {f i : Nat} (h : UqIs s O f i) (hi : i ≤ s.size) (hc : ∀ h : i < s.size, s[i] = 10) {y : List UInt8} (hy : unline (sub s f i) (decide (i < s.size)) = y) {O' : ByteArray} (hO : O'.data.toList = O.data.toList ++ y) : UqIs s O' (i + 1) (i + 1) := by
  obtain ⟨h1, h2, h3, _⟩ := h
  have h3 := h3 hi
  have hl := unline_len (sub s f i) (decide (i < s.size))
  rw [hy, sub_length _ _ _ hi] at hl
  have hOs : O'.size = O.size + y.length := by
    have : O'.data.toList.length = O'.size := rfl
    rw [← this, hO, List.length_append]; rfl
  have h01 : (if decide (i < s.size) = true then 1 else 0) ≤ 1 := by split <;> omega
  refine ⟨by omega, by rw [hOs]; omega, fun h => ?_, fun h => ?_⟩
  · have hi' : i < s.size := by omega
    rw [tl_cons s i hi', hc hi', unq, if_pos rfl] at h3
    simp only [hi', decide_true] at hy
    rw [hO, ← hy, sub_nil s (i + 1) (i + 1) (by omega), List.append_assoc]; exact h3
  · have hi' : i = s.size := by omega
    rw [tl_end s i (by omega), unq] at h3
    simp only [show ¬ i < s.size by omega, decide_false] at hy
    rw [hO, ← hy]; exact h3
theorem uqr_end {s O : ByteArray} {f i : Nat} (h : UqIs s O f i) (hi : s.size < i) : O = ⟨(unQpR s.data.toList).toArray⟩ := by
  rw [← h.2.2.2 hi]

/-- the end of the line, and what stands behind it -/
def CutA (s : ByteArray) (f i : Nat) (v6 v7 : Value) : Prop := ∃ (t : Nat) (E : ByteArray), v6 = .int .i64 t ∧ v7 = .string E ∧ f ≤ t ∧ t ≤ i ∧ E.size ≤ 2 ∧ unline (sub s f i) (decide (i < s.size)) = uncut (sub s f t) E.data.toList
def CutB (s : ByteArray) (f t : Nat) (v6 : Value) : Prop := ∃ t1 : Nat, v6 = .int .i64 t1 ∧ f ≤ t1 ∧ t1 ≤ t ∧ Lib.trimRightS (sub s f t1) [32, 9] = Lib.trimRightS (sub s f t) [32, 9]
def CutE (s : ByteArray) (f t : Nat) (v6 : Value) : Prop := ∃ t1 : Nat, v6 = .int .i64 t1 ∧ f ≤ t1 ∧ t1 ≤ t ∧ Lib.trimRightS (sub s f t) [32, 9] = sub s f t1
def CutC (s : ByteArray) (f t : Nat) (y : List UInt8) (v6 v7 : Value) : Prop := ∃ (t2 : Nat) (E : ByteArray), v6 = .int .i64 t2 ∧ v7 = .string E ∧ f ≤ t2 ∧ t2 ≤ t ∧ E.size ≤ 2 ∧ y = escR (sub s f t2) ++ E.data.toList
theorem cutA_end {s : ByteArray} {f i : Nat} (hf : f ≤ i) (h : ¬ i < s.size) : CutA s f i (.int .i64 i) (.string ⟨#[]⟩) :=
  ⟨i, ⟨#[]⟩, rfl, rfl, hf, by omega, by decide, by rw [decide_eq_false h, unline, if_neg (by decide)]⟩
theorem cutA_cr {s : ByteArray} {f i : Nat} (hf : f < i) (h : i < s.size) (hc : s[i - 1] = 13) : CutA s f i (.int .i64 ((i : Int) - 1)) (.string ⟨#[13, 10]⟩) := by
  refine ⟨i - 1, ⟨#[13, 10]⟩, by congr 1; omega, rfl, by omega, by omega, by decide, ?_⟩
  rw [decide_eq_true h, unline, if_pos rfl, sub_last s f i hf (by omega), ends1_snoc, hc, if_pos (by decide), List.dropLast_concat]
theorem cutA_lf {s : ByteArray} {f i : Nat} (hf : f ≤ i) (h : i < s.size) (hc : ∀ _ : f < i, s[i - 1] ≠ 13) : CutA s f i (.int .i64 i) (.string ⟨#[10]⟩) := by
  refine ⟨i, ⟨#[10]⟩, rfl, rfl, hf, by omega, by decide, ?_⟩
  rw [decide_eq_true h, unline, if_pos rfl, if_neg]
  by_cases hfi : f < i
  · rw [sub_last s f i hfi (by omega), ends1_snoc]; simpa using hc hfi
  · rw [sub_nil _ _ _ (by omega)]; decide
theorem cutB_step {s : ByteArray} {f t t1 : Nat} (h : Lib.trimRightS (sub s f t1) [32, 9] = Lib.trimRightS (sub s f t) [32, 9]) (hf : f < t1) (h1 : t1 ≤ s.size) (hc : s[t1 - 1] = 32 ∨ s[t1 - 1] = 9) : Lib.trimRightS (sub s f (t1 - 1)) [32, 9] = Lib.trimRightS (sub s f t) [32, 9] := by
  rw [← h, sub_last s f t1 hf h1, trim_snoc, if_pos hc]
theorem cutB_end {s : ByteArray} {f t t1 : Nat} (h : Lib.trimRightS (sub s f t1) [32, 9] = Lib.trimRightS (sub s f t) [32, 9]) (h1 : t1 ≤ s.size) (hc : ∀ _ : f < t1, s[t1 - 1] ≠ 32 ∧ s[t1 - 1] ≠ 9) : Lib.trimRightS (sub s f t) [32, 9] = sub s f t1 := by
  rw [← h]
  by_cases hf : f < t1
  · rw [sub_last s f t1 hf h1, trim_snoc, if_neg (fun h => h.elim (hc hf).1 (hc hf).2)]
  · rw [sub_nil _ _ _ (by omega)]; rfl
theorem cutC_soft {s E : ByteArray} {f t : Nat} {a : List UInt8} (ha : Lib.trimRightS a [32, 9] = sub s f t) (hf : f < t) (ht : t ≤ s.size) (hc : s[t - 1] = 61) : CutC s f t (uncut a E.data.toList) (.int .i64 ((t : Int) - 1)) (.string ⟨#[]⟩) := by
  refine ⟨t - 1, ⟨#[]⟩, by congr 1; omega, rfl, by omega, by omega, by decide, ?_⟩
  rw [uncut, ha, sub_last s f t hf ht, ends1_snoc, hc, if_pos (by decide), List.dropLast_concat]; simp
theorem cutC_hard {s E : ByteArray} {f t : Nat} {a : List UInt8} (ha : Lib.trimRightS a [32, 9] = sub s f t) (hE : E.size ≤ 2) (hf : f ≤ t) (ht : t ≤ s.size) (hc : ∀ _ : f < t, s[t - 1] ≠ 61) : CutC s f t (uncut a E.data.toList) (.int .i64 t) (.string E) := by
  refine ⟨t, E, rfl, rfl, hf, by omega, hE, ?_⟩
  rw [uncut, ha, if_neg]
  by_cases h : f < t
  · rw [sub_last s f t h ht, ends1_snoc]; simpa using hc h
  · rw [sub_nil _ _ _ (by omega)]; decide
theorem ne_b6 {c : UInt8} {v : UInt8} : (((c.toNat : Int) != (v.toNat : Int)) = true ↔ c ≠ v) := by
  rw [bne_iff_ne]
  exact ⟨fun h e => h (by rw [e]), fun h e => h (by rw [← UInt8.toNat_inj]; omega)⟩
theorem ne_bf6 {c : UInt8} {v : UInt8} : (((c.toNat : Int) != (v.toNat : Int)) = false ↔ c = v) := by
  rw [bne_eq_false_iff_eq]
  exact ⟨fun h => by rw [← UInt8.toNat_inj]; omega, fun h => by rw [h]⟩
theorem eq_b {c : UInt8} {v : UInt8} : (((c.toNat : Int) == (v.toNat : Int)) = true ↔ c = v) := by
  rw [beq_iff_eq]
  exact ⟨fun h => by rw [← UInt8.toNat_inj]; omega, fun h => by rw [h]⟩
theorem eq_bf {c : UInt8} {v : UInt8} : (((c.toNat : Int) == (v.toNat : Int)) = false ↔ c ≠ v) := by
  rw [beq_eq_false_iff_ne]
  exact ⟨fun h e => h (by rw [e]), fun h e => h (by rw [← UInt8.toNat_inj]; omega)⟩

set_option maxHeartbeats 4000000 in
set_option maxRecDepth 100000 in
theorem unQpRef_any (s : ByteArray) (w : World) (hs : s.size ≤ 1000000) :
    Calls Tryd.prog 17 #[.string s] w fun e w' => e = .returned (.string ⟨(unQpR s.data.toList).toArray⟩) ∧ Below w.heap.size w w' := by
  have hst := Lib.hid (uqr_start s)
  go_enter Tryd.func17, Tryd.ntmps17
  go_wp2
  go_loopg [3, 4, 5] (s.size + 1) (fun g o fv iv wr => ∃ (O : ByteArray) (f i : Nat), o = .string O ∧ fv = .int .i64 f ∧ iv = .int .i64 i ∧ s.size + 1 ≤ g + i ∧ i ≤ s.size + 1 ∧ f ≤ i ∧ O.size ≤ f ∧ Below w.heap.size w wr ∧ Hid (UqIs s O f i))
  case atStart => exact ⟨⟨#[]⟩, 0, 0, rfl, rfl, rfl, by omega, by omega, by omega, by decide, Below.refl _ _, hst⟩
  case round =>
    clear hst
    obtain ⟨O, f, i, rfl, rfl, rfl, hg, hi, hfi, hO, hbel, hrel⟩ := hrel
    have hsz := hbel.size
    by_cases hend : s.size < i
    · have H := Lib.hid (uqr_end hrel.out hend)
      clear hrel
      go_wp2
      go_ret
      rw [← H.out]
      exact ⟨rfl, hbel⟩
    · have hle : i ≤ s.size := by omega
      clear hend
      by_cases hskip : ∃ h : i < s.size, s[i] ≠ 10
      · obtain ⟨hlt, h10⟩ := hskip
        have q1 : ((s[i].toNat : Int) != 10) = true := (ne_b6 (v := 10)).2 h10
        have hst := Lib.hid (uqr_skip hrel.out hlt h10)
        clear hrel h10
        go_wp2
        go_roundg (gk - 1)
        case measure => omega
        case rel => exact ⟨O, f, i + 1, rfl, rfl, by go_num, by omega, by omega, by omega, hO, hbel, hst⟩
      · have hc10 : ∀ h : i < s.size, s[i] = 10 := fun h => Classical.byContradiction fun e => hskip ⟨h, e⟩
        clear hskip
        have HC := Lib.hid hc10
        clear hc10
        go_upto_region 6 with fail
        go_cut [23] (fun v wc => v = .bool false ∧ wc = wr)
        case first =>
          by_cases hlt : i < s.size
          · have q1 : ((s[i].toNat : Int) != 10) = false := (ne_bf6 (v := 10)).2 (HC.out hlt)
            go_wp2
            go_meet
            exact ⟨rfl, rfl⟩
          · go_wp2
            go_meet
            exact ⟨rfl, rfl⟩
        case rest =>
        obtain ⟨rfl, rfl⟩ := hcut
        go_upto_if 28 with fail
        go_cut [6, 7] (fun v6 v7 wc' => wc' = wc ∧ CutA s f i v6 v7)
        case first =>
          by_cases hlt : i < s.size
          · by_cases hfi2 : f < i
            · by_cases h13 : s[i - 1] = 13
              · have q1 : ((s[i - 1].toNat : Int) == 13) = true := (eq_b (v := 13)).2 h13
                have H := Lib.hid (cutA_cr hfi2 hlt h13)
                clear h13
                go_wp2
                go_meet
                exact ⟨rfl, H.out⟩
              · have q1 : ((s[i - 1].toNat : Int) == 13) = false := (eq_bf (v := 13)).2 h13
                have H := Lib.hid (cutA_lf hfi hlt (fun _ => h13))
                clear h13
                go_wp2
                go_meet
                exact ⟨rfl, H.out⟩
            · have hif : i ≤ f := by omega
              have H := Lib.hid (cutA_lf hfi hlt (fun h => absurd h (by omega)))
              go_wp2
              go_meet
              exact ⟨rfl, H.out⟩
          · have H := Lib.hid (cutA_end hfi hlt)
            go_wp2
            go_meet
            exact ⟨rfl, H.out⟩
        case rest =>
        obtain ⟨rfl, t, E, rfl, rfl, hft, hti, hE, hun⟩ := hcut
        have HUN := Lib.hid hun
        clear hun
        go_upto_block 2 with fail
        go_cut [6] (fun v6 wc'' => wc'' = wc ∧ CutE s f t v6)
        case first =>
          go_wp2_with fail
          go_loop [6] (fun v => ∃ t1 : Nat, v = .int .i64 t1 ∧ f ≤ t1 ∧ t1 ≤ t ∧ Hid (Lib.trimRightS (sub s f t1) [32, 9] = Lib.trimRightS (sub s f t) [32, 9])) (fun v => (intOf v).toNat)
          case atStart => exact ⟨t, rfl, hft, by omega, rfl⟩
          case round =>
            obtain ⟨t1, rfl, hf1, ht1, hr⟩ := hrel
            by_cases hfi2 : f < t1
            · by_cases h32 : s[t1 - 1] = 32
              · have q1 : ((s[t1 - 1].toNat : Int) == 32) = true := (eq_b (v := 32)).2 h32
                have H := Lib.hid (cutB_step hr.out hfi2 (by omega) (.inl h32))
                clear h32 hr
                go_wp2
                go_round
                case rel => exact ⟨t1 - 1, by congr 1; omega, by omega, by omega, H⟩
                case measure => simp [intOf]; omega
              · have q1 : ((s[t1 - 1].toNat : Int) == 32) = false := (eq_bf (v := 32)).2 h32
                by_cases h9 : s[t1 - 1] = 9
                · have q2 : ((s[t1 - 1].toNat : Int) == 9) = true := (eq_b (v := 9)).2 h9
                  have H := Lib.hid (cutB_step hr.out hfi2 (by omega) (.inr h9))
                  clear h32 h9 hr
                  go_wp2
                  go_round
                  case rel => exact ⟨t1 - 1, by congr 1; omega, by omega, by omega, H⟩
                  case measure => simp [intOf]; omega
                · have q2 : ((s[t1 - 1].toNat : Int) == 9) = false := (eq_bf (v := 9)).2 h9
                  have H := Lib.hid (cutB_end hr.out (by omega) (fun _ => ⟨h32, h9⟩))
                  clear h32 h9 hr
                  go_wp2
                  go_meet
                  exact ⟨rfl, t1, rfl, hf1, ht1, H.out⟩
            · have H := Lib.hid (cutB_end hr.out (by omega) (fun h => absurd h hfi2))
              clear hr
              go_wp2
              go_meet
              exact ⟨rfl, t1, rfl, hf1, ht1, H.out⟩
        case rest =>
        obtain ⟨rfl, t1, rfl, hf1, ht1, htr⟩ := hcut
        obtain ⟨y, hy⟩ : ∃ y, y = uncut (sub s f t) E.data.toList := ⟨_, rfl⟩
        have HY := Lib.hid (HUN.out.trans hy.symm)
        have HTR := Lib.hid htr
        clear htr
        obtain ⟨b, hb⟩ : ∃ b : Bool, (b = true ↔ ∃ h : f < t1, s[t1 - 1]'(by omega) = 61) := ⟨@decide _ (Classical.propDecidable _), @decide_eq_true_iff _ (Classical.propDecidable _)⟩
        have HB := Lib.hid hb
        clear hb
        go_upto_region 16 with fail
        go_cut [69] (fun v wc'' => wc'' = wc ∧ v = .bool b)
        case first =>
          by_cases hfi2 : f < t1
          · by_cases h61 : s[t1 - 1] = 61
            · have q1 : ((s[t1 - 1].toNat : Int) == 61) = true := (eq_b (v := 61)).2 h61
              obtain rfl : b = true := HB.out.2 ⟨hfi2, h61⟩
              clear h61 hy
              go_wp2
              go_meet
              exact ⟨rfl, rfl⟩
            · have q1 : ((s[t1 - 1].toNat : Int) == 61) = false := (eq_bf (v := 61)).2 h61
              obtain rfl : b = false := (Bool.not_eq_true b).mp fun h => h61 (HB.out.1 h).2
              clear h61 hy
              go_wp2
              go_meet
              exact ⟨rfl, rfl⟩
          · obtain rfl : b = false := (Bool.not_eq_true b).mp fun h => hfi2 (HB.out.1 h).1
            clear hy
            go_wp2
            go_meet
            exact ⟨rfl, rfl⟩
        case rest =>
        obtain ⟨rfl, rfl⟩ := hcut
        go_upto_if 69 with fail
        go_cut [6, 7] (fun v6 v7 wc'' => wc'' = wc ∧ CutC s f t1 y v6 v7)
        case first =>
          cases b with
          | true =>
            obtain ⟨hfi2, h61⟩ := HB.out.1 rfl
            have H := Lib.hid (cutC_soft (E := E) HTR.out hfi2 (by omega) h61)
            rw [← hy] at H
            clear h61 hy
            go_wp2
            go_meet
            exact ⟨rfl, H.out⟩
          | false =>
            have H := Lib.hid (cutC_hard (E := E) HTR.out hE hf1 (by omega) (fun h1 h2 => Bool.noConfusion (HB.out.2 ⟨h1, h2⟩)))
            rw [← hy] at H
            clear hy
            go_wp2
            go_meet
            exact ⟨rfl, H.out⟩
        case rest =>
        obtain ⟨rfl, t2, E2, rfl, rfl, hf2, ht2, hE2, hy2⟩ := hcut
        clear hy
        obtain ⟨X, hX, hXl, hXs⟩ := arr_ex (escR (sub s f t2))
        have hXn := escR_length (sub s f t2)
        rw [sub_length _ _ _ (by omega)] at hXn
        have hexs := sub_size s f t2 (by omega)
        have hesc : ∀ w, Calls Tryd.prog 40 #[.string (s.extract f t2)] w fun e w' => e = .returned (.string X) ∧ Below w.heap.size w w' := fun w => by
          rw [hX, ← sub_extract]; exact escR_any _ w (by omega)
        have HE := Lib.hid hesc
        have hnx := Lib.hid (uqr_line hrel.out hle HC.out (HY.out.trans hy2) (O' := O ++ X ++ E2) (by rw [app_list, app_list, hXl, List.append_assoc]))
        have hfin : (O ++ X ++ E2).size ≤ i + 1 := hnx.out.2.1
        have hex := ByteArray.size_append (a := O) (b := X)
        have hex2 := ByteArray.size_append (a := O ++ X) (b := E2)
        rw [hex] at hex2
        have hsum : O.size + X.size + E2.size ≤ i + 1 := by omega
        clear hesc hX hXl hXs hexs hy2 hrel HY HTR HUN HC hex hex2 hfin
        go_wp2_with (go_at_call 40; go_must (refine (HE.out _).mono ?_; rintro e w1 ⟨rfl, hb1⟩; have t1 := hbel.trans (hb1.mono hsz)))
        go_roundg (gk - 1)
        case measure => omega
        case rel => exact ⟨_, i + 1, i + 1, rfl, by go_num, by go_num, by omega, by omega, by omega, hnx.out.2.1, t1, hnx⟩
end Go.Proofs.YtgkbjgmcgbnnaaaDoor
