/- Walks: the reference of layer 8: Split, Bare, told, Push. -/
import Derived.Test.YtjoipgekmnnlpaaGreatDoorLnC
import Derived.Test.YtjoipgekmnnlpaaGreatDoorSmAd
import Derived.Test.YtjoipgekmnnlpaaGreatDoorSmGq
import Derived.Test.YtjoipgekmnnlpaaGreatDoorTlRP
import Derived.Test.YtjoipgekmnnlpaaGreatDoorRfW
namespace Go.Proofs.YtjoipgekmnnlpaaGreatDoor
open Go.RowKit Go.Shelf Pk Lx Sm

theorem lnL_consR (c : UInt8) (r : List UInt8) : lnL (c :: r) = if c = 10 then 1 else lnL r + 1 := rfl
theorem tl_lengthR (s : ByteArray) (a : Nat) : (tl s a).length = s.size - a := by
  unfold tl
  rw [List.length_drop]
  rfl
theorem tl_takeR (s : ByteArray) (a n : Nat) (h : a + n ≤ s.size) : (s.extract a (a + n)).data.toList = (tl s a).take n := by
  unfold tl
  rw [ByteArray.data_extract, Array.toList_extract, List.extract_eq_take_drop]
  congr 1
  omega
theorem tl_dropR (s : ByteArray) (k n : Nat) : (tl s k).drop n = tl s (k + n) := by unfold tl; rw [List.drop_drop]
theorem u8kR {a : UInt8} (n : Nat) (hn : n < 256) : ((a.toNat : Int) == (n : Int)) = decide (a = UInt8.ofNat n) := by
  have := u8_beq a (UInt8.ofNat n)
  rw [show ((UInt8.ofNat n).toNat : Int) = (n : Int) by simp; omega] at this
  exact this
theorem lnL_spanR : ∀ l : List UInt8, lnL l = min (spanL noNl l + 1) l.length
  | [] => rfl
  | c :: r => by
    have ih := lnL_spanR r
    rw [lnL_consR, List.length_cons]
    unfold spanL noNl
    by_cases h : c = 10
    · rw [if_pos h, if_neg (by simp [h])]; omega
    · rw [if_neg h, if_pos (by simp [h])]
      have e : spanL (fun c => decide (c ≠ 10)) r = spanL noNl r := rfl
      rw [e]; omega
/-- the first k bytes behind the place a all satisfy p -/
def SpanFromR (p : UInt8 → Bool) (s : ByteArray) (a k : Nat) : Prop := a + k ≤ s.size ∧ k + spanL p (tl s (a + k)) = spanL p (tl s a)
theorem spanF_zeroR {p : UInt8 → Bool} {s : ByteArray} {a : Nat} (h : a ≤ s.size) : SpanFromR p s a 0 := ⟨h, by rw [Nat.add_zero, Nat.zero_add]⟩
theorem spanF_stepR {p : UInt8 → Bool} {s : ByteArray} {a k : Nat} (h : SpanFromR p s a k) (hk : a + k < s.size) : (p s[a + k] = true → SpanFromR p s a (k + 1)) ∧ (p s[a + k] = false → spanL p (tl s a) = k) := by
  obtain ⟨h1, h2⟩ := h
  rw [tl_cons s (a + k) hk] at h2
  unfold spanL at h2
  refine ⟨fun h4 => ⟨by omega, ?_⟩, fun h4 => ?_⟩
  · rw [if_pos h4] at h2
    show k + 1 + spanL p (tl s (a + k + 1)) = spanL p (tl s a)
    conv => rhs; unfold spanL
    omega
  · rw [if_neg (by rw [h4]; decide)] at h2
    conv => lhs; unfold spanL
    omega
theorem spanF_endR {p : UInt8 → Bool} {s : ByteArray} {a k : Nat} (h : SpanFromR p s a k) (hk : ¬ a + k < s.size) : spanL p (tl s a) = k := by
  obtain ⟨h1, h2⟩ := h
  rw [tl_end s (a + k) (by omega)] at h2
  have e : spanL p [] = 0 := rfl
  omega
theorem ext_takeR (s : ByteArray) (a n : Nat) (h : a + n ≤ s.size) : (⟨((tl s a).take n).toArray⟩ : ByteArray) = s.extract a (a + n) := by
  rw [← tl_takeR s a n h]
theorem ext_tlR (s : ByteArray) (a : Nat) : (⟨(tl s a).toArray⟩ : ByteArray) = s.extract a s.size := by
  have : (s.extract a s.size).data.toList = tl s a := ext_from s a
  rw [← this]
theorem linB_tlR (s : ByteArray) (a : Nat) (h : a < s.size) : linB (s.extract a s.size) = s.extract a (a + lnL (tl s a)) :: linB (s.extract (a + lnL (tl s a)) s.size) := by
  have e : (s.extract a s.size).data.toList = tl s a := ext_from s a
  rw [linB_cons (by rw [ext_size]; omega), e]
  have := lnL_le (tl s a)
  rw [tl_lengthR] at this
  rw [ext_takeR s a _ (by omega), tl_dropR, ext_tlR]
/-- the lines split off, where the present one begins, and how far it is read -/
structure SplAtR (s : ByteArray) (f i : Nat) (acc : List ByteArray) : Prop where
  lines : linB s = acc ++ linB (s.extract f s.size)
  run : SpanFromR noNl s f (i - f)
  le : f ≤ i
theorem splAt_zeroR (s : ByteArray) : SplAtR s 0 0 [] := ⟨by rw [show s.extract 0 s.size = s from by rw [← ext_tlR, tl_zero]]; rfl, spanF_zeroR (Nat.zero_le _), Nat.le_refl _⟩
theorem splAt_stepR {s : ByteArray} {f i : Nat} {acc : List ByteArray} (h : SplAtR s f i acc) (hi : i < s.size) : (s[i] = 10 → SplAtR s (i + 1) (i + 1) (acc ++ [s.extract f (i + 1)])) ∧ (s[i] ≠ 10 → SplAtR s f (i + 1) acc) := by
  obtain ⟨h1, h2, h3⟩ := h
  have e : f + (i - f) = i := by omega
  obtain ⟨s1, s2⟩ := spanF_stepR h2 (by omega)
  refine ⟨fun hc => ?_, fun hc => ⟨h1, ?_, by omega⟩⟩
  · have hx := s2 (by unfold noNl; exact decide_eq_false (fun hx => hx (by simp only [e]; exact hc)))
    have hl := lnL_spanR (tl s f)
    rw [hx, tl_lengthR] at hl
    refine ⟨?_, by rw [Nat.sub_self]; exact spanF_zeroR (by omega), Nat.le_refl _⟩
    rw [h1, linB_tlR s f (by omega), hl, show f + min (i - f + 1) (s.size - f) = i + 1 by omega, List.append_assoc]
    rfl
  · have := s1 (by unfold noNl; exact decide_eq_true (by simp only [e]; exact hc))
    rw [show i + 1 - f = i - f + 1 by omega]
    exact this
theorem splAt_endR {s : ByteArray} {f i : Nat} {acc : List ByteArray} (h : SplAtR s f i acc) (hi : ¬ i < s.size) : (f < s.size → linB s = acc ++ [s.extract f s.size]) ∧ (¬ f < s.size → linB s = acc) := by
  obtain ⟨h1, h2, h3⟩ := h
  refine ⟨fun hf => ?_, fun hf => ?_⟩
  · have hx := spanF_endR h2 (by omega)
    have hl := lnL_spanR (tl s f)
    have := h2.1
    rw [hx, tl_lengthR] at hl
    rw [h1, linB_tlR s f hf, hl, show f + min (i - f + 1) (s.size - f) = s.size by omega, linB_nil (R := s.extract s.size s.size) (by rw [ext_size]; omega)]
  · rw [h1, linB_nil (R := s.extract f s.size) (by rw [ext_size]; omega), List.append_nil]
theorem splAt_lenR {s : ByteArray} {f i : Nat} {acc : List ByteArray} (h : SplAtR s f i acc) : acc.length ≤ s.size := by
  have := linB_len s
  rw [h.lines, List.length_append] at this
  omega
def SplIsR (s : ByteArray) (w : World) (e : Ending) (w' : World) : Prop := ∃ v, e = .returned v ∧ ownsS w' w.heap.size 9 v (linB s) ∧ Below w.heap.size w w'
set_option maxHeartbeats 4000000 in
set_option maxRecDepth 100000 in
theorem splitQ_anyR (s : ByteArray) (w : World) (hs : s.size ≤ 10000000) : Calls Tryz.prog 70 #[.string s] w (SplIsR s w) := by
  go_enter Tryz.func70, Tryz.ntmps70
  go_wp2
  go_loopw [3, 4, 5] (fun ov fv iv wr => ∃ (f i : Nat) (acc : List ByteArray), fv = .int .i64 f ∧ iv = .int .i64 i ∧ f ≤ i ∧ i ≤ s.size ∧ acc.length ≤ s.size ∧ ownsS wr w.heap.size 9 ov acc ∧ Below w.heap.size w wr ∧ Hid (SplAtR s f i acc)) (fun _ _ iv _ => s.size - (intOf iv).toNat)
  case atStart => exact ⟨0, 0, [], by first | rfl | trivial, by first | rfl | trivial, Nat.le_refl _, Nat.zero_le _, Nat.zero_le _, World.ownsRow_nil w _ _ 1, Below.refl _ _, splAt_zeroR s⟩
  case round =>
    obtain ⟨f, i, acc, rfl, rfl, hf, hi, hal, hown, hbel, hrel⟩ := hrel
    have hsz := hbel.size
    by_cases hlt : i < s.size
    · obtain ⟨s1, s2⟩ := splAt_stepR hrel.out hlt
      by_cases h10 : s[i] = 10
      · have hn := Lib.hid (s1 h10)
        have hal2 := splAt_lenR hn.out
        rw [List.length_append, List.length_singleton] at hal2
        have q1 : ((s[i].toNat : Int) == 10) = true := (u8kR 10 (by decide)).trans (decide_eq_true h10)
        have hX : Hid (∃ X, X = s.extract f (i + 1)) := ⟨_, rfl⟩
        clear s1 s2 hrel h10
        go_wp2_with (at_builtin; go_loud (refine append_str _ rfl (.tmp 16) (.tmp 22) sslN rfl w.heap.size _ _ rfl (ownsS.alloc hown _) ⟨_, 0, none⟩ 1 1 [_] rfl rfl (cells_new _ _ _) (by first | omega | (simp; done) | (simp; omega)) (by first | omega | (simp; done) | (simp; omega)) ?_; intro v6 w6 hown6 hg6; have hb6 := Below_grownS (Below.alloc hbel hsz _) (ownsS.alloc hown _) hg6 (by first | omega | (simp; done) | (simp; omega)); clear hg6))
        go_roundw
        case rel => exact ⟨i + 1, i + 1, _, by go_num, by go_num, Nat.le_refl _, by omega, by rw [List.length_append, List.length_singleton]; exact hal2, hown6, hb6, hn⟩
        case measure => simp [intOf]; omega
      · have hn := Lib.hid (s2 h10)
        have q1 : ((s[i].toNat : Int) == 10) = false := (u8kR 10 (by decide)).trans (decide_eq_false h10)
        clear s1 s2 hrel h10
        go_wp2
        go_roundw
        case rel => exact ⟨f, i + 1, acc, by first | rfl | trivial, by go_num, by omega, by omega, hal, hown, hbel, hn⟩
        case measure => simp [intOf]; omega
    · obtain ⟨s1, s2⟩ := splAt_endR hrel.out hlt
      by_cases hfs : f < s.size
      · have hX := Lib.hid (s1 hfs)
        clear s1 s2 hrel
        go_wp2_with (at_builtin; go_loud (refine append_str _ rfl (.tmp 30) (.tmp 34) sslN rfl w.heap.size _ _ rfl (ownsS.alloc hown _) ⟨_, 0, none⟩ 1 1 [_] rfl rfl (cells_new _ _ _) (by first | omega | (simp; done) | (simp; omega)) (by first | omega | (simp; done) | (simp; omega)) ?_; intro v6 w6 hown6 hg6; have hb6 := Below_grownS (Below.alloc hbel hsz _) (ownsS.alloc hown _) hg6 (by first | omega | (simp; done) | (simp; omega)); clear hg6))
        go_ret
        exact ⟨_, rfl, by rw [hX.out]; exact hown6, hb6⟩
      · have hX := Lib.hid (s2 hfs)
        clear s1 s2 hrel
        go_wp2
        go_ret
        exact ⟨_, rfl, by rw [hX.out]; exact hown, hbel⟩
theorem last_atR (s : ByteArray) (h : 0 < s.size) : s.data.toList.getLast? = some (s[s.size - 1]'(by omega)) := by
  rw [List.getLast?_eq_getElem?]
  have e : s.data.toList.length = s.size := rfl
  rw [e, List.getElem?_eq_getElem (by omega)]
  rfl
theorem last_at2R (s : ByteArray) (h : 1 < s.size) : s.data.toList.dropLast.getLast? = some (s[s.size - 2]'(by omega)) := by
  rw [List.getLast?_eq_getElem?, List.length_dropLast]
  have e : s.data.toList.length = s.size := rfl
  rw [e, List.getElem?_dropLast, if_pos (by omega), List.getElem?_eq_getElem (by omega)]
  rfl
theorem ext_preR (s : ByteArray) (n : Nat) (h : n ≤ s.size) : bt (s.data.toList.take n) = s.extract 0 n := by
  have := ext_takeR s 0 n (by omega)
  rw [tl_zero, Nat.zero_add] at this
  exact this
set_option maxHeartbeats 4000000 in
set_option maxRecDepth 100000 in
theorem bareQ_anyR (s : ByteArray) (w : World) (hs : s.size ≤ 100000000) : Calls Tryz.prog 72 #[.string s] w fun e w' => e = .returned (.string (bt (bareS s.data.toList))) ∧ w = w' := by
  have HL : Hid (s.data.toList.length = s.size) := Lib.hid rfl
  by_cases h0 : 0 < s.size
  · have z1 : (0 : Int) ≤ (s.size : Int) - 1 := by omega
    have z3 : ((s.size : Int) - 1).toNat = s.size - 1 := by omega
    have z4 : (s.size : Int) - 1 < (s.size : Int) := by omega
    have k0 : ((s.size : Int) == 0) = false := beq_eq_false_iff_ne.2 (by omega)
    by_cases h1 : s[s.size - 1] = 10
    · have q1 : ((s[s.size - 1].toNat : Int) == 10) = true := (u8kR 10 (by decide)).trans (decide_eq_true h1)
      have q1' : ((s[s.size - 1].toNat : Int) != 10) = false := by rw [bne, q1]; rfl
      have hb : bareS s.data.toList = chopS 13 s.data.toList.dropLast := by unfold bareS; rw [last_atR s h0, if_pos (by rw [h1])]
      by_cases h2 : 1 < s.size
      · have k1 : decide ((1 : Int) < (s.size : Int)) = true := decide_eq_true (by omega)
        have y1 : (0 : Int) ≤ (s.size : Int) - 2 := by omega
        have y3 : ((s.size : Int) - 2).toNat = s.size - 2 := by omega
        by_cases h3 : s[s.size - 2] = 13
        · have q2 : ((s[s.size - 2].toNat : Int) == 13) = true := (u8kR 13 (by decide)).trans (decide_eq_true h3)
          have hX : bt (bareS s.data.toList) = s.extract 0 (s.size - 2) := by
            rw [hb]; unfold chopS
            rw [last_at2R s h2, if_pos (by rw [h3]), List.dropLast_eq_take, List.dropLast_eq_take, List.length_take, List.take_take, HL.out, show min (min (s.size - 1) s.size - 1) (s.size - 1) = s.size - 2 by omega]
            exact ext_preR s _ (by omega)
          rw [hX]
          clear hX hb HL h1 h3
          go_enter Tryz.func72, Tryz.ntmps72
          go_wp2
          go_ret
          exact ⟨rfl, rfl⟩
        · have q2 : ((s[s.size - 2].toNat : Int) == 13) = false := (u8kR 13 (by decide)).trans (decide_eq_false h3)
          have hX : bt (bareS s.data.toList) = s.extract 0 (s.size - 1) := by
            rw [hb]; unfold chopS
            rw [last_at2R s h2, if_neg (by simpa using h3), List.dropLast_eq_take, HL.out]
            exact ext_preR s _ (by omega)
          rw [hX]
          clear hX hb HL h1 h3
          go_enter Tryz.func72, Tryz.ntmps72
          go_wp2
          go_ret
          exact ⟨rfl, rfl⟩
      · have k1 : decide ((1 : Int) < (s.size : Int)) = false := decide_eq_false (by omega)
        have hX : bt (bareS s.data.toList) = s.extract 0 (s.size - 1) := by
          rw [hb]
          have : s.data.toList.dropLast = [] := List.eq_nil_of_length_eq_zero (by rw [List.length_dropLast, HL.out]; omega)
          rw [this, ← ext_preR s _ (by omega), show s.size - 1 = 0 by omega]
          rfl
        rw [hX]
        clear hX hb HL h1
        go_enter Tryz.func72, Tryz.ntmps72
        go_wp2
        go_ret
        exact ⟨rfl, rfl⟩
    · have q1 : ((s[s.size - 1].toNat : Int) == 10) = false := (u8kR 10 (by decide)).trans (decide_eq_false h1)
      have q1' : ((s[s.size - 1].toNat : Int) != 10) = true := by rw [bne, q1]; rfl
      have hX : bt (bareS s.data.toList) = s := by unfold bareS; rw [last_atR s h0, if_neg (by simpa using h1), bt_back]
      rw [hX]
      clear hX HL h1
      go_enter Tryz.func72, Tryz.ntmps72
      go_wp2
      go_ret
      exact ⟨rfl, rfl⟩
  · have k0 : ((s.size : Int) == 0) = true := beq_iff_eq.2 (by omega)
    have hX : bt (bareS s.data.toList) = s := by
      have e : s.data.toList = [] := List.eq_nil_of_length_eq_zero (by rw [HL.out]; omega)
      have e2 : bt s.data.toList = s := bt_back s
      rw [e] at e2 ⊢
      exact e2
    rw [hX]
    clear hX HL
    go_enter Tryz.func72, Tryz.ntmps72
    go_wp2
    go_ret
    exact ⟨rfl, rfl⟩
set_option maxRecDepth 100000 in
theorem told_any (s : ByteArray) (w : World) (hs : s.size ≤ 100000000) : Calls Tryz.prog 71 #[.string s, .int .i64 1000] w fun e w' => e = .returned (.string (bt (s.data.toList.take 1000))) ∧ w' = w := by
  by_cases h : 1000 < s.size
  · have q1 : decide ((1000 : Int) < (s.size : Int)) = true := decide_eq_true (by omega)
    have z3 : (1000 : Int) ≤ (s.size : Int) := by omega
    have hX : bt (s.data.toList.take 1000) = s.extract 0 1000 := (ext_to s 1000).symm
    rw [hX]
    clear hX
    go_enter Tryz.func71, Tryz.ntmps71
    go_wp2
    go_ret
    exact ⟨rfl, rfl⟩
  · have q1 : decide ((1000 : Int) < (s.size : Int)) = false := decide_eq_false (by omega)
    have hX : bt (s.data.toList.take 1000) = s := by
      rw [List.take_of_length_le (by show s.size ≤ 1000; omega), bt_back]
    rw [hX]
    clear hX
    go_enter Tryz.func71, Tryz.ntmps71
    go_wp2
    go_ret
    exact ⟨rfl, rfl⟩
/-- within the reference's Push -/
structure PuR (w1 wr : World) (fb : Nat) (s : List UInt8) (ov : Value) (i : Nat) (outs : List (List UInt8)) (LV : ByteArray) : Prop where
  ps : PsA s i outs LV.data.toList
  fd : wr.heap[fb]? = some (.cells #[.int .i64 1000, .string LV] 84 (0, 0))
  oq : Qs txL True wr 9 ov (outs.map bt)
  own : ∀ k, ov.ownBlock = some k → w1.heap.size ≤ k
  frm : Fr (Bk fb) w1 wr
/-- what the reference's Push leaves -/
def PuhR (w : World) (fb : Nat) (L chunk : List UInt8) (e : Ending) (w' : World) : Prop := ∃ v LV, e = .returned v ∧ Qs txL True w' 9 v ((pushW (L.take 1000) chunk).1.map bt) ∧ (∀ k, v.ownBlock = some k → w.heap.size ≤ k) ∧
  w'.heap[fb]? = some (.cells #[.int .i64 1000, .string LV] 84 (0, 0)) ∧ LV.data.toList.contains 10 = false ∧ LV.data.toList.take 1000 = (pushW (L.take 1000) chunk).2 ∧ LV.size ≤ L.length + chunk.length ∧ Fr (Bk fb) w w'
theorem PuR.cells {w1 wr : World} {fb : Nat} {s : List UInt8} {ov : Value} {i : Nat} {outs : List (List UInt8)} {LV : ByteArray} (h : PuR w1 wr fb s ov i outs LV) :
    wr.cell? ⟨fb, 0, none⟩ = some (.int .i64 1000) ∧ wr.cell? ⟨fb, 1, none⟩ = some (.string LV) ∧ wr.frozen? ⟨fb, 1, none⟩ = false := by
  have hf := h.fd
  exact ⟨(Lib.cell_of_heap hf _).trans rfl, (Lib.cell_of_heap hf _).trans rfl, by simp [World.frozen?, hf]⟩
theorem PuR.ne {w1 wr : World} {fb : Nat} {s : List UInt8} {ov : Value} {i : Nat} {outs : List (List UInt8)} {LV : ByteArray} (h : PuR w1 wr fb s ov i outs LV) : ov.ownBlock ≠ some fb := by
  intro e
  rcases h.oq with ⟨rfl, -⟩ | ⟨g, o, cap, cur, fz, rfl, -, -, h3, -⟩
  · cases e
  · injection e with e
    subst e
    have h4 := h.fd
    rw [h3] at h4
    injection h4 with h4
    injection h4 with _ h4
    exact absurd h4 (by decide)
theorem PuR.set {w1 wr : World} {fb : Nat} {s : List UInt8} {ov : Value} {i j : Nat} {outs : List (List UInt8)} {LV X : ByteArray} (h : PuR w1 wr fb s ov i outs LV) (hp : PsA s j outs X.data.toList) : PuR w1 (wr.setCell ⟨fb, 1, none⟩ (.string X)) fb s ov j outs X := by
  have hf := h.fd
  have far : ∀ k, k ≠ fb → (wr.setCell ⟨fb, 1, none⟩ (.string X)).heap[k]? = wr.heap[k]? := fun k hk => Below.heap_setCell wr ⟨fb, 1, none⟩ _ k hk
  exact ⟨hp, by simp [World.setCell, Array.getElem?_modify, hf], h.oq.kept fun g e => far g (fun e' => h.ne (by rw [e, e'])), h.own, h.frm.setCell (by rfl) _⟩
theorem PuR.put {w1 wr w2 w3 : World} {fb : Nat} {s : List UInt8} {ov v' : Value} {i : Nat} {outs : List (List UInt8)} {LV : ByteArray} {x : List UInt8} (h : PuR w1 wr fb s ov i outs LV) (hp : PsA s (i + 1) (outs ++ [x]) LV.data.toList) (hb : Below wr.heap.size wr w2)
    (hq : Qs txL True w3 9 v' ((outs ++ [x]).map bt)) (hg : w2.grownBy w3 ov.ownBlock) (hn : NewOwn w2 ov v') : PuR w1 w3 fb s v' (i + 1) (outs ++ [x]) LV := by
  have hfl := lt_of_block h.fd
  refine ⟨hp, ((hg.block fb (Nat.lt_of_lt_of_le hfl hb.size) (fun e => h.ne e.symm)).trans (hb.block fb hfl)).trans h.fd, hq, fun k e => ?_, ?_⟩
  · rcases hn with e' | e'
    · exact h.own k (by rw [← e']; exact e)
    · have := e' k e
      have := hb.size
      have := h.frm.size
      omega
  · have f1 : Fr (Bk fb) w1 w2 := h.frm.trans (Fr.of_below (X := fun _ => False) hb) (fun _ e => e.elim)
    refine f1.trans (Y := fun k => ov.ownBlock = some k) ⟨hg.os, hg.tape, hg.output, hg.size, fun k hk hx => hg.block k hk fun e => hx e.symm⟩ fun g e => .inr (h.own g e)
theorem txGR : GSl txL 16 Tryz.prog 22 9 := GSl.of Tryz.underlying22 (by kernel_rfl)
theorem linB_atR (s : ByteArray) (i : Nat) (h : i < (linB s).length) : ∃ h2 : i < (linN s.data.toList).length, (linB s)[i].data.toList = (linN s.data.toList)[i] := by
  have hl : (linB s).length = (linN s.data.toList).length := by unfold linB; rw [List.length_map]
  refine ⟨by omega, ?_⟩
  have : (linB s)[i]? = ((linN s.data.toList).map fun l => (⟨l.toArray⟩ : ByteArray))[i]? := rfl
  rw [List.getElem?_eq_getElem h, List.getElem?_map, List.getElem?_eq_getElem (by omega)] at this
  injection this with this
  rw [this]
set_option maxHeartbeats 4000000 in
set_option maxRecDepth 100000 in
theorem pushR_any (fb : Nat) (L chunk : ByteArray) (w : World) (hL : L.size ≤ 1000000) (hc : chunk.size ≤ 1000000) (hf : w.heap[fb]? = some (.cells #[.int .i64 1000, .string L] 84 (0, 0))) (hno : L.data.toList.contains 10 = false) :
    Calls Tryz.prog 40 #[.pointer (some ⟨fb, 0, none⟩), .string chunk] w (PuhR w fb L.data.toList chunk.data.toList) := by
  have u1 : ¬ (9223372036854775807 < L.size + chunk.size) := by omega
  have c1 : w.cell? ⟨fb, 1, none⟩ = some (.string L) := (Lib.cell_of_heap hf _).trans rfl
  have HSp := Lib.hid (splitQ_anyR (L ++ chunk) w (by rw [ByteArray.size_append]; omega))
  have HF := Lib.hid (And.intro hf (And.intro hno (And.intro hL hc)))
  clear hf hno
  go_enter Tryz.func40, Tryz.ntmps40
  go_wp2_with fail
  refine HSp.out.mono ?_
  rintro e w1 ⟨v1, rfl, ho1, hb1⟩
  have hfl := lt_of_block HF.out.1
  have hf1 : w1.heap[fb]? = some (.cells #[.int .i64 1000, .string L] 84 (0, 0)) := (hb1.block fb hfl).trans HF.out.1
  have d1 : w1.cell? ⟨fb, 1, none⟩ = some (.string L) := (Lib.cell_of_heap hf1 _).trans rfl
  have d2 : w1.frozen? ⟨fb, 1, none⟩ = false := by simp [World.frozen?, hf1]
  obtain ⟨S, hS⟩ : ∃ S, S = L ++ chunk := ⟨_, rfl⟩
  rw [← hS] at ho1
  have hSd : S.data.toList = L.data.toList ++ chunk.data.toList := by rw [hS]; simp
  have hI0 : PuR w1 (w1.setCell ⟨fb, 1, none⟩ (.string ⟨#[]⟩)) fb S.data.toList (.slice none 0 0) 0 [] ⟨#[]⟩ :=
    ⟨psA_zero _, by simp [World.setCell, Array.getElem?_modify, hf1], Qs.nil _ _ _ _, (fun k e => by cases e), (Fr.refl (Bk fb) _).setCell (by rfl) _⟩
  have hSz : S.size ≤ 2000000 := by rw [hS, ByteArray.size_append]; omega
  have hLl := linB_len S
  have HI0 := Lib.hid hI0
  have HB1 := Lib.hid (And.intro hb1 (And.intro hSd (And.intro hSz hS)))
  have hform := ho1.form
  obtain ⟨n, hn⟩ : ∃ n, n = (linB S).length := ⟨_, rfl⟩
  obtain ⟨p1, cp1, rfl, hcell⟩ : ∃ p1 cp1, v1 = .slice p1 n cp1 ∧ (n = 0 ∨ ∃ g, p1 = some ⟨g, 0, none⟩ ∧ w.heap.size ≤ g ∧ ∀ j (hj : j < (linB S).length), w1.cell? ⟨g, j, none⟩ = some (.string (linB S)[j])) := by
    rw [hn]
    rcases hform with ⟨e1, e2⟩ | ⟨g, c, e1, e2, e3, -, e4⟩
    · exact ⟨none, 0, by rw [e2]; exact e1, .inl (by rw [e2]; rfl)⟩
    · exact ⟨_, c, e1, .inr ⟨g, rfl, e2, e4⟩⟩
  have HN := Lib.hid (And.intro hn (And.intro hLl hcell))
  clear hI0 hf1 hb1 hSd hS hSz hLl ho1 hform hcell hn c1 HSp
  go_wp2_with fail
  go_loopg [6, 7] n (fun g ov iv wr => ∃ (i : Nat) (outs : List (List UInt8)) (LV : ByteArray) (ow : Value), i + g = n ∧ iv = .int .i64 i ∧ ow = ov ∧ Hid (PuR w1 wr fb S.data.toList ow i outs LV))
  case atStart => exact ⟨0, [], ⟨#[]⟩, _, by omega, rfl, rfl, HI0⟩
  case round =>
    clear HI0 d1 d2
    obtain ⟨i, outs, LV, ov, hi, rfl, rfl, hI⟩ := hrel
    by_cases hl : i < n
    · have hl2 : i < (linB S).length := by have := HN.out.1; omega
      have r1 : decide ((i : Int) < (n : Int)) = true := decide_eq_true (by omega)
      have r3 : (i : Int) < (n : Int) := by omega
      have r6 : IntKind.i64.wrap ((i : Int) + 1) = (i : Int) + 1 := w64 rfl (by omega) (by have := HN.out; have := HB1.out; omega)
      obtain ⟨g, rfl, hgw, hcell⟩ : ∃ g, p1 = some ⟨g, 0, none⟩ ∧ w.heap.size ≤ g ∧ ∀ j (hj : j < (linB S).length), w1.cell? ⟨g, j, none⟩ = some (.string (linB S)[j]) := by
        rcases HN.out.2.2 with h | h
        · omega
        · exact h
      have hx1 := hcell i hl2
      obtain ⟨hl3, hxd⟩ := linB_atR S i hl2
      obtain ⟨x, hx⟩ : ∃ x, x = (linB S)[i] := ⟨_, rfl⟩
      rw [← hx] at hx1 hxd
      obtain ⟨hxne, hxle⟩ := linN_ne _ _ (List.getElem_mem hl3)
      rw [← hxd] at hxne hxle
      have hxs : x.data.toList.length = x.size := rfl
      have hSs : S.data.toList.length = S.size := rfl
      have hx0 : 0 < x.size := by
        rcases Nat.eq_zero_or_pos x.size with e | e
        · exact absurd (List.eq_nil_of_length_eq_zero (by omega)) hxne
        · exact e
      have hxb : x.size ≤ 2000000 := by have := HB1.out; omega
      have hfb := lt_of_block HF.out.1
      have hxr : wr.cell? ⟨g, i, none⟩ = some (.string x) := (World.cell?_of_block (hI.out.frm.block g (World.block_lt_of_cell? _ _ hx1) (fun e => by have e : g = fb := e; omega))).trans hx1
      obtain ⟨k0, k1, k2⟩ := hI.out.cells
      have t1 : (0 : Int) ≤ (x.size : Int) - 1 ∧ (x.size : Int) - 1 < (x.size : Int) := by omega
      have t2 : 1 ≤ (x.size : Int) ∧ (x.size : Int) - 1 < (x.size : Int) := by omega
      have t3 : x.size - 1 < x.size := by omega
      have t4 : IntKind.i64.wrap ((x.size : Int) - 1) = (x.size : Int) - 1 := w64 rfl (by omega) (by omega)
      obtain ⟨s1, s2⟩ := psA_step hI.out.ps hl3
      rw [← hxd] at s1 s2
      have hla := last_atR x hx0
      have hgl := World.block_lt_of_cell? _ _ hx1
      have HX := Lib.hid (And.intro hi (And.intro hx0 (And.intro hxb (And.intro hxr (And.intro hl hgl)))))
      by_cases h10 : x[x.size - 1] = 10
      · have q1 : ((x[x.size - 1].toNat : Int) == 10) = true := (u8kR 10 (by decide)).trans (decide_eq_true h10)
        have hp : Hid (PsA S.data.toList (i + 1) (outs ++ [x.data.toList.take 1000]) LV.data.toList) := by rw [hI.out.ps.nil hl3]; exact s1 (by rw [hla, h10])
        have hS0 : wr.drew.cell? ⟨g, i, none⟩ = some (.string x) := hxr
        clear s1 s2 hla h10 hxne hxle hxs hSs hgl hx1 hcell hxd hl3 hx hi hx0 hxb hl2 hl
        go_wp2_with fail
        refine wp_region_heldO (fun V => V.cell? ⟨g, i, none⟩ = some (.string x)) 12 (by kernel_rfl) rfl hS0 (fun hHeld => ?_)
        refine takeO (v := ?_) 0 rfl (by kernel_rfl) (by kernel_rfl) (by kernel_rfl) (by rfl) ?_ hHeld ?_
        rotate_left
        · intro w hSw
          (try dsimp only at hSw)
          go_simp
          first | done | with_reducible rfl
        simp only [Act.put, List.setIfInBounds_toArray, List.set_cons_zero, List.set_cons_succ]
        refine takeO (v := ?_) 1 rfl (by kernel_rfl) (by kernel_rfl) (by kernel_rfl) (by rfl) ?_ hHeld ?_
        rotate_left
        · intro w hSw
          (try dsimp only at hSw)
          go_simp
          first | done | with_reducible rfl
        simp only [Act.put, List.setIfInBounds_toArray, List.set_cons_zero, List.set_cons_succ]
        refine takeO (v := ?_) 2 rfl (by kernel_rfl) (by kernel_rfl) (by kernel_rfl) (by rfl) ?_ hHeld ?_
        rotate_left
        · intro w hSw
          (try dsimp only at hSw)
          go_simp
          first | done | with_reducible rfl
        simp only [Act.put, List.setIfInBounds_toArray, List.set_cons_zero, List.set_cons_succ]
        refine takeO (v := ?_) 3 rfl (by kernel_rfl) (by kernel_rfl) (by kernel_rfl) (by rfl) ?_ hHeld ?_
        rotate_left
        · intro w hSw
          (try dsimp only at hSw)
          go_simp
          first | done | with_reducible rfl
        simp only [Act.put, List.setIfInBounds_toArray, List.set_cons_zero, List.set_cons_succ]
        refine takeO (v := ?_) 4 rfl (by kernel_rfl) (by kernel_rfl) (by kernel_rfl) (by rfl) ?_ hHeld ?_
        rotate_left
        · intro w hSw
          (try dsimp only at hSw)
          go_simp
          first | done | with_reducible rfl
        simp only [Act.put, List.setIfInBounds_toArray, List.set_cons_zero, List.set_cons_succ]
        refine takeO (v := ?_) 5 rfl (by kernel_rfl) (by kernel_rfl) (by kernel_rfl) (by rfl) ?_ hHeld ?_
        rotate_left
        · intro w hSw
          (try dsimp only at hSw)
          go_simp
          first | done | with_reducible rfl
        simp only [Act.put, List.setIfInBounds_toArray, List.set_cons_zero, List.set_cons_succ]
        refine takeO (v := ?_) 6 rfl (by kernel_rfl) (by kernel_rfl) (by kernel_rfl) (by rfl) ?_ hHeld ?_
        rotate_left
        · intro w hSw
          (try dsimp only at hSw)
          go_simp
          first | done | with_reducible rfl
        simp only [Act.put, List.setIfInBounds_toArray, List.set_cons_zero, List.set_cons_succ]
        refine takeO (v := ?_) 7 rfl (by kernel_rfl) (by kernel_rfl) (by kernel_rfl) (by rfl) ?_ hHeld ?_
        rotate_left
        · intro w hSw
          (try dsimp only at hSw)
          go_simp
          first | done | with_reducible rfl
        simp only [Act.put, List.setIfInBounds_toArray, List.set_cons_zero, List.set_cons_succ]
        refine takeO (v := ?_) 8 rfl (by kernel_rfl) (by kernel_rfl) (by kernel_rfl) (by rfl) ?_ hHeld ?_
        rotate_left
        · intro w hSw
          (try dsimp only at hSw)
          go_simp
          first | done | with_reducible rfl
        simp only [Act.put, List.setIfInBounds_toArray, List.set_cons_zero, List.set_cons_succ]
        refine takeO (v := ?_) 9 rfl (by kernel_rfl) (by kernel_rfl) (by kernel_rfl) (by rfl) ?_ hHeld ?_
        rotate_left
        · intro w hSw
          (try dsimp only at hSw)
          go_simp
          first | done | with_reducible rfl
        simp only [Act.put, List.setIfInBounds_toArray, List.set_cons_zero, List.set_cons_succ]
        refine takeO (v := ?_) 10 rfl (by kernel_rfl) (by kernel_rfl) (by kernel_rfl) (by rfl) ?_ hHeld ?_
        rotate_left
        · intro w hSw
          (try dsimp only at hSw)
          go_simp
          first | done | with_reducible rfl
        simp only [Act.put, List.setIfInBounds_toArray, List.set_cons_zero, List.set_cons_succ]
        refine takeO (v := ?_) 11 rfl (by kernel_rfl) (by kernel_rfl) (by kernel_rfl) (by rfl) ?_ hHeld ?_
        rotate_left
        · intro w hSw
          (try dsimp only at hSw)
          go_simp
          first | done | with_reducible rfl
        simp only [Act.put, List.setIfInBounds_toArray, List.set_cons_zero, List.set_cons_succ]
        refine doneO (by kernel_rfl) ?_
        have hT := told_any x wr.drew.drew (by have := HX.out.2.2.1; omega)
        obtain ⟨X, hXb, hXd, -⟩ := bt_ex (x.data.toList.take 1000)
        rw [← hXb] at hT
        have HT := Lib.hid hT
        have hb2 : Below wr.heap.size wr (wr.drew.drew.alloc (.cells #[.string X] 9)) := ((Below.refl _ wr).drew.drew).alloc (Nat.le_refl _) _
        have hq2 : Qs txL True (wr.drew.drew.alloc (.cells #[.string X] 9)) 9 ov (outs.map bt) := hI.out.oq.kept fun g e => hb2.block g (hI.out.oq.lt e)
        have hsrc : Src Tryz.prog txL.k 22 (.slice (some ⟨wr.heap.size, 0, none⟩) 1 1) ([X] : List ByteArray).length (([X] : List ByteArray).flatMap txL.enc) (wr.drew.drew.alloc (.cells #[.string X] 9)) :=
          Src.ofSlice _ Tryz.underlying22 _ _ _ _ rfl (fun j u hu => cells_new wr.drew.drew [.string X] 9 j u hu) (by intro u hu; simp [txL] at hu; subst hu; rfl)
        have hol : (outs.map bt).length ≤ 2000000 := by
          have h1 := hI.out.ps.out
          have h2 := (pushL_le ((linN S.data.toList).take i) [] (Nat.zero_le _)).2.2
          rw [← h1, List.length_take] at h2
          rw [List.length_map]
          have := HB1.out.2.2.1; have := HN.out; omega
        obtain ⟨v4, w4, hap, hq4, hg4, hn4, -⟩ := run_append_q (P := Tryz.prog) txGR hq2 22 22 _ [X] hsrc (by rw [List.length_singleton]; omega) (by rw [List.length_singleton]; omega)
        have hP4 := hI.out.put hp.out hb2 (by rw [List.map_append]; show Qs txL True w4 9 v4 (outs.map bt ++ [bt (x.data.toList.take 1000)]); rw [← hXb]; exact hq4) hg4 hn4
        have HP4 := Lib.hid hP4
        have hS1 : wr.drew.drew.cell? ⟨g, i, none⟩ = some (.string x) ∧ wr.drew.drew.cell? ⟨fb, 0, none⟩ = some (.int .i64 1000) := ⟨hxr, k0⟩
        have hS2 : (wr.drew.drew.alloc (.cells #[.string X] 9)).cell? ⟨g, i, none⟩ = some (.string x) ∧ (wr.drew.drew.alloc (.cells #[.string X] 9)).cell? ⟨fb, 0, none⟩ = some (.int .i64 1000) := ⟨cell_later hb2 hxr, cell_later hb2 k0⟩
        have hS4 : w4.cell? ⟨g, i, none⟩ = some (.string x) ∧ w4.cell? ⟨fb, 0, none⟩ = some (.int .i64 1000) := by
          have hx4 := hP4.frm
          exact ⟨(World.cell?_of_block (hg4.block g (Nat.lt_of_lt_of_le (World.block_lt_of_cell? _ _ hxr) hb2.size) (fun e => by have := hI.out.own g e.symm; have := HX.out; omega))).trans (cell_later hb2 hxr), hP4.cells.1⟩
        clear hT hXb hb2 hq2 hsrc hol hq4 hg4 hn4 hP4 hHeld hS0
        go_wp2_with fail
        refine wp_region_heldO (fun V => V.cell? ⟨g, i, none⟩ = some (.string x) ∧ V.cell? ⟨fb, 0, none⟩ = some (.int .i64 1000)) 13 (by kernel_rfl) rfl hS1 (fun hHeld => ?_)
        refine takeO (v := ?_) 0 rfl (by kernel_rfl) (by kernel_rfl) (by kernel_rfl) (by rfl) ?_ hHeld ?_
        rotate_left
        · intro w hSw
          obtain ⟨hSw0, hSw1⟩ := hSw
          go_simp
          first | done | with_reducible rfl
        simp only [Act.put, List.setIfInBounds_toArray, List.set_cons_zero, List.set_cons_succ]
        refine takeO (v := ?_) 1 rfl (by kernel_rfl) (by kernel_rfl) (by kernel_rfl) (by rfl) ?_ hHeld ?_
        rotate_left
        · intro w hSw
          obtain ⟨hSw0, hSw1⟩ := hSw
          go_simp
          first | done | with_reducible rfl
        simp only [Act.put, List.setIfInBounds_toArray, List.set_cons_zero, List.set_cons_succ]
        refine takeO (v := ?_) 2 rfl (by kernel_rfl) (by kernel_rfl) (by kernel_rfl) (by rfl) ?_ hHeld ?_
        rotate_left
        · intro w hSw
          obtain ⟨hSw0, hSw1⟩ := hSw
          go_simp
          first | done | with_reducible rfl
        simp only [Act.put, List.setIfInBounds_toArray, List.set_cons_zero, List.set_cons_succ]
        refine takeO (v := ?_) 3 rfl (by kernel_rfl) (by kernel_rfl) (by kernel_rfl) (by rfl) ?_ hHeld ?_
        rotate_left
        · intro w hSw
          obtain ⟨hSw0, hSw1⟩ := hSw
          go_simp
          first | done | with_reducible rfl
        simp only [Act.put, List.setIfInBounds_toArray, List.set_cons_zero, List.set_cons_succ]
        refine takeO (v := ?_) 4 rfl (by kernel_rfl) (by kernel_rfl) (by kernel_rfl) (by rfl) ?_ hHeld ?_
        rotate_left
        · intro w hSw
          obtain ⟨hSw0, hSw1⟩ := hSw
          go_simp
          first | done | with_reducible rfl
        simp only [Act.put, List.setIfInBounds_toArray, List.set_cons_zero, List.set_cons_succ]
        refine takeO (v := ?_) 5 rfl (by kernel_rfl) (by kernel_rfl) (by kernel_rfl) (by rfl) ?_ hHeld ?_
        rotate_left
        · intro w hSw
          obtain ⟨hSw0, hSw1⟩ := hSw
          go_simp
          first | done | with_reducible rfl
        simp only [Act.put, List.setIfInBounds_toArray, List.set_cons_zero, List.set_cons_succ]
        refine takeO (v := ?_) 6 rfl (by kernel_rfl) (by kernel_rfl) (by kernel_rfl) (by rfl) ?_ hHeld ?_
        rotate_left
        · intro w hSw
          obtain ⟨hSw0, hSw1⟩ := hSw
          go_simp
          first | done | with_reducible rfl
        simp only [Act.put, List.setIfInBounds_toArray, List.set_cons_zero, List.set_cons_succ]
        refine takeO (v := ?_) 7 rfl (by kernel_rfl) (by kernel_rfl) (by kernel_rfl) (by rfl) ?_ hHeld ?_
        rotate_left
        · intro w hSw
          obtain ⟨hSw0, hSw1⟩ := hSw
          go_simp
          first | done | with_reducible rfl
        simp only [Act.put, List.setIfInBounds_toArray, List.set_cons_zero, List.set_cons_succ]
        refine takeO (v := ?_) 8 rfl (by kernel_rfl) (by kernel_rfl) (by kernel_rfl) (by rfl) ?_ hHeld ?_
        rotate_left
        · intro w hSw
          obtain ⟨hSw0, hSw1⟩ := hSw
          go_simp
          first | done | with_reducible rfl
        simp only [Act.put, List.setIfInBounds_toArray, List.set_cons_zero, List.set_cons_succ]
        refine callO (f := 71) (args := #[.string x, .int .i64 1000]) 9 rfl (by kernel_rfl) (by rfl) (by go_simp) (HT.out.mono ?_)
        rintro e w11 ⟨rfl, rfl⟩
        refine ⟨_, rfl, hHeld, ?_⟩
        simp only [Act.put, List.setIfInBounds_toArray, List.set_cons_zero, List.set_cons_succ]
        refine stepO (w' := wr.drew.drew.alloc (.cells #[.string X] 9)) (v := .slice (some ⟨wr.heap.size, 0, none⟩) 1 1) 10 rfl (by kernel_rfl) (by rfl) (by go_simp) hS2 ?_
        simp only [Act.put, List.setIfInBounds_toArray, List.set_cons_zero, List.set_cons_succ]
        refine stepO (v := v4) (w' := w4) 11 rfl (by kernel_rfl) (by rfl) (run_appO rfl rfl rfl hap) hS4 ?_
        simp only [Act.put, List.setIfInBounds_toArray, List.set_cons_zero, List.set_cons_succ]
        refine stepO (v := v4) (w' := w4) 12 rfl (by kernel_rfl) (by rfl) (by go_simp) hS4 ?_
        simp only [Act.put, List.setIfInBounds_toArray, List.set_cons_zero, List.set_cons_succ]
        refine doneO (by kernel_rfl) ?_
        clear hHeld hS1 hS2 hS4 hap HT
        go_wp2
        go_roundg (n - (i + 1))
        case rel => exact ⟨i + 1, _, LV, _, by have := HX.out; omega, rfl, rfl, HP4⟩
        case measure => have := HX.out; omega
      · have q1 : ((x[x.size - 1].toNat : Int) == 10) = false := (u8kR 10 (by decide)).trans (decide_eq_false h10)
        have hp := s2 (by rw [hla]; intro e; injection e with e; exact h10 e)
        have HP4 := Lib.hid (hI.out.set hp)
        have hS0 : wr.drew.cell? ⟨g, i, none⟩ = some (.string x) := hxr
        clear s1 s2 hla h10 hxne hxle hxs hSs hgl hx1 hcell hxd hl3 hx hi hx0 hxb hl2 hl hp
        go_wp2_with fail
        refine wp_region_heldO (fun V => V.cell? ⟨g, i, none⟩ = some (.string x)) 12 (by kernel_rfl) rfl hS0 (fun hHeld => ?_)
        refine takeO (v := ?_) 0 rfl (by kernel_rfl) (by kernel_rfl) (by kernel_rfl) (by rfl) ?_ hHeld ?_
        rotate_left
        · intro w hSw
          (try dsimp only at hSw)
          go_simp
          first | done | with_reducible rfl
        simp only [Act.put, List.setIfInBounds_toArray, List.set_cons_zero, List.set_cons_succ]
        refine takeO (v := ?_) 1 rfl (by kernel_rfl) (by kernel_rfl) (by kernel_rfl) (by rfl) ?_ hHeld ?_
        rotate_left
        · intro w hSw
          (try dsimp only at hSw)
          go_simp
          first | done | with_reducible rfl
        simp only [Act.put, List.setIfInBounds_toArray, List.set_cons_zero, List.set_cons_succ]
        refine takeO (v := ?_) 2 rfl (by kernel_rfl) (by kernel_rfl) (by kernel_rfl) (by rfl) ?_ hHeld ?_
        rotate_left
        · intro w hSw
          (try dsimp only at hSw)
          go_simp
          first | done | with_reducible rfl
        simp only [Act.put, List.setIfInBounds_toArray, List.set_cons_zero, List.set_cons_succ]
        refine takeO (v := ?_) 3 rfl (by kernel_rfl) (by kernel_rfl) (by kernel_rfl) (by rfl) ?_ hHeld ?_
        rotate_left
        · intro w hSw
          (try dsimp only at hSw)
          go_simp
          first | done | with_reducible rfl
        simp only [Act.put, List.setIfInBounds_toArray, List.set_cons_zero, List.set_cons_succ]
        refine takeO (v := ?_) 4 rfl (by kernel_rfl) (by kernel_rfl) (by kernel_rfl) (by rfl) ?_ hHeld ?_
        rotate_left
        · intro w hSw
          (try dsimp only at hSw)
          go_simp
          first | done | with_reducible rfl
        simp only [Act.put, List.setIfInBounds_toArray, List.set_cons_zero, List.set_cons_succ]
        refine takeO (v := ?_) 5 rfl (by kernel_rfl) (by kernel_rfl) (by kernel_rfl) (by rfl) ?_ hHeld ?_
        rotate_left
        · intro w hSw
          (try dsimp only at hSw)
          go_simp
          first | done | with_reducible rfl
        simp only [Act.put, List.setIfInBounds_toArray, List.set_cons_zero, List.set_cons_succ]
        refine takeO (v := ?_) 6 rfl (by kernel_rfl) (by kernel_rfl) (by kernel_rfl) (by rfl) ?_ hHeld ?_
        rotate_left
        · intro w hSw
          (try dsimp only at hSw)
          go_simp
          first | done | with_reducible rfl
        simp only [Act.put, List.setIfInBounds_toArray, List.set_cons_zero, List.set_cons_succ]
        refine takeO (v := ?_) 7 rfl (by kernel_rfl) (by kernel_rfl) (by kernel_rfl) (by rfl) ?_ hHeld ?_
        rotate_left
        · intro w hSw
          (try dsimp only at hSw)
          go_simp
          first | done | with_reducible rfl
        simp only [Act.put, List.setIfInBounds_toArray, List.set_cons_zero, List.set_cons_succ]
        refine takeO (v := ?_) 8 rfl (by kernel_rfl) (by kernel_rfl) (by kernel_rfl) (by rfl) ?_ hHeld ?_
        rotate_left
        · intro w hSw
          (try dsimp only at hSw)
          go_simp
          first | done | with_reducible rfl
        simp only [Act.put, List.setIfInBounds_toArray, List.set_cons_zero, List.set_cons_succ]
        refine takeO (v := ?_) 9 rfl (by kernel_rfl) (by kernel_rfl) (by kernel_rfl) (by rfl) ?_ hHeld ?_
        rotate_left
        · intro w hSw
          (try dsimp only at hSw)
          go_simp
          first | done | with_reducible rfl
        simp only [Act.put, List.setIfInBounds_toArray, List.set_cons_zero, List.set_cons_succ]
        refine takeO (v := ?_) 10 rfl (by kernel_rfl) (by kernel_rfl) (by kernel_rfl) (by rfl) ?_ hHeld ?_
        rotate_left
        · intro w hSw
          (try dsimp only at hSw)
          go_simp
          first | done | with_reducible rfl
        simp only [Act.put, List.setIfInBounds_toArray, List.set_cons_zero, List.set_cons_succ]
        refine takeO (v := ?_) 11 rfl (by kernel_rfl) (by kernel_rfl) (by kernel_rfl) (by rfl) ?_ hHeld ?_
        rotate_left
        · intro w hSw
          (try dsimp only at hSw)
          go_simp
          first | done | with_reducible rfl
        simp only [Act.put, List.setIfInBounds_toArray, List.set_cons_zero, List.set_cons_succ]
        refine doneO (by kernel_rfl) ?_
        have k1' : wr.drew.cell? ⟨fb, 1, none⟩ = some (.string LV) := k1
        have k2' : wr.drew.frozen? ⟨fb, 1, none⟩ = false := k2
        have HP5 : Hid (PuR w1 (wr.drew.setCell ⟨fb, 1, none⟩ (.string x)) fb S.data.toList ov (i + 1) outs x) := ⟨HP4.out.ps, HP4.out.fd, HP4.out.oq, HP4.out.own, HP4.out.frm.os, HP4.out.frm.tape, HP4.out.frm.output, HP4.out.frm.size, HP4.out.frm.block⟩
        clear hS0
        go_wp2
        go_roundg (n - (i + 1))
        case rel => exact ⟨i + 1, outs, x, _, by have := HX.out; omega, rfl, rfl, HP5⟩
        case measure => have := HX.out; omega
    · have r1 : decide ((i : Int) < (n : Int)) = false := decide_eq_false (by omega)
      have r2 : decide (i < n) = false := decide_eq_false hl
      have hl2 : ¬ i < (linN (L.data.toList ++ chunk.data.toList)).length := by
        have h1 := HN.out.1
        have h2 : (linB S).length = (linN S.data.toList).length := by unfold linB; rw [List.length_map]
        rw [← HB1.out.2.1]; omega
      clear hi hl
      go_wp2
      go_ret
      obtain ⟨hps, hfd, hoq, hown, hfrm⟩ := hI.out
      rw [HB1.out.2.1] at hps
      obtain ⟨e1, e2⟩ := psA_end hps hl2 HF.out.2.1
      refine ⟨ov, LV, rfl, by rw [← e1]; exact hoq, fun k e => by have := hown k e; have := HB1.out.1.size; omega, hfd, hps.no, e2.symm, by have := hps.len; rw [List.length_append] at this; exact this, ?_⟩
      exact (Fr.of_below HB1.out.1).trans hfrm fun g e => .inl e
end Go.Proofs.YtjoipgekmnnlpaaGreatDoor
