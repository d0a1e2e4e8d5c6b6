/- Walks: fold.number, Order. -/
import Derived.Test.YtlbnhkojfefccaaDoorFd1
namespace Go.Proofs.YtlbnhkojfefccaaDoor
open Go.RowKit Pk U8 Fo

def dig (c : UInt8) : Bool := decide (48 ≤ c.toNat) && decide (c.toNat ≤ 57)
def digs (l : List UInt8) : List UInt8 := l.takeWhile dig
def numL (l : List UInt8) : List UInt8 := (digs l).dropWhile (· == 48)
def isNum (l : List UInt8) : Bool := decide (0 < (digs l).length)
theorem digs_step {s : ByteArray} {n : Nat} {X : List UInt8} (h : Hid (s.data.toList.take n ++ digs (tl s n) = X)) (hn : n < s.size) (hd : dig s[n] = true) : Hid (s.data.toList.take (n + 1) ++ digs (tl s (n + 1)) = X) := by
  have e := h.out
  unfold digs at *
  rw [tl_cons s n hn, List.takeWhile_cons_of_pos hd] at e
  show _ = _
  rw [← e, List.take_succ_eq_append_getElem (by show n < s.data.toList.length; exact hn)]
  simp
  rfl
theorem digs_stop {s : ByteArray} {n : Nat} {X : List UInt8} (h : Hid (s.data.toList.take n ++ digs (tl s n) = X)) (hn : n < s.size) (hd : dig s[n] = false) : s.data.toList.take n = X := by
  have e := h.out
  unfold digs at *
  rw [tl_cons s n hn, List.takeWhile_cons_of_neg (by simp [hd]), List.append_nil] at e
  exact e
theorem digs_end {s : ByteArray} {n : Nat} {X : List UInt8} (h : Hid (s.data.toList.take n ++ digs (tl s n) = X)) (hn : ¬ n < s.size) : s.data.toList.take n = X := by
  have e := h.out
  unfold digs at *
  rw [tl_end s n (by omega)] at e
  simpa using e
def NumIs (l : List UInt8) (w : World) (e : Ending) (w' : World) : Prop := e = .returned (.tuple #[.string ⟨(numL l).toArray⟩, .bool (isNum l)]) ∧ w = w'
theorem num_fin {s : ByteArray} {n : Nat} (hn : n ≤ s.size) (h : s.data.toList.take n = digs s.data.toList) (w : World) :
    Calls Tryd.prog 50 #[.string (s.extract 0 n), .string ⟨#[48]⟩] w (fun e w' => e = .returned (.string ⟨(numL s.data.toList).toArray⟩) ∧ w' = w) ∧ isNum s.data.toList = decide (0 < n) := by
  refine ⟨?_, ?_⟩
  · have ht := Tryd.strings_TrimLeft_one (s.extract 0 n) 48 (by decide) w
    have e : Lib.trimLeftB (s.extract 0 n).data.toList 48 = numL s.data.toList := by
      unfold Lib.trimLeftB numL
      rw [← h, Lib.extract_from_zero]
    rw [e] at ht
    exact ht
  · unfold isNum
    rw [← h, List.length_take, show s.data.toList.length = s.size from rfl]
    exact decide_eq_decide.2 (by omega)
set_option maxHeartbeats 1000000 in
set_option maxRecDepth 100000 in
theorem number_any (s : ByteArray) (w : World) (hs : s.size ≤ 10000000) : Calls Tryd.prog 32 #[.string s] w (NumIs s.data.toList w) := by
  go_enter Tryd.func32, Tryd.ntmps32
  go_wp2
  go_loopw [4] (fun nv wi => ∃ (n : Nat), nv = .int .i64 n ∧ wi = w ∧ n ≤ s.size ∧ Hid (s.data.toList.take n ++ digs (tl s n) = digs s.data.toList)) (fun nv _ => s.size - (intOf nv).toNat)
  case atStart => exact ⟨0, by first | rfl | trivial, rfl, by omega, by show _ = _; rw [tl_zero]; rfl⟩
  case round =>
    obtain ⟨n, rfl, rfl, hn, hrel⟩ := hrel
    by_cases hlt : n < s.size
    · by_cases h1 : 48 ≤ s[n].toNat
      · by_cases h2 : s[n].toNat ≤ 57
        · have hd := digs_step hrel hlt (by unfold dig; rw [decide_eq_true h1, decide_eq_true h2]; rfl)
          clear hrel
          go_wp2
          go_roundw
          case rel => exact ⟨n + 1, by go_num, by first | rfl | trivial, by omega, hd⟩
          case measure => simp [intOf]; omega
        · obtain ⟨hT, hI⟩ := num_fin (by omega) (digs_stop hrel hlt (by unfold dig; rw [decide_eq_false h2, Bool.and_false])) wr
          have HT := Lib.hid hT
          have q : decide ((0 : Int) < (n : Int)) = decide (0 < n) := decide_eq_decide.2 (by omega)
          clear hrel hT
          go_wp2_with (go_at_call 50; (with_reducible refine HT.out.mono ?_); rintro e w1 ⟨rfl, hw1⟩; subst w1)
          go_ret2
          unfold NumIs
          rw [hI]
          exact ⟨by first | rfl | (rw [← q]), rfl⟩
      · obtain ⟨hT, hI⟩ := num_fin (by omega) (digs_stop hrel hlt (by unfold dig; rw [decide_eq_false h1, Bool.false_and])) wr
        have HT := Lib.hid hT
        have q : decide ((0 : Int) < (n : Int)) = decide (0 < n) := decide_eq_decide.2 (by omega)
        clear hrel hT
        go_wp2_with (go_at_call 50; (with_reducible refine HT.out.mono ?_); rintro e w1 ⟨rfl, hw1⟩; subst w1)
        go_ret2
        unfold NumIs
        rw [hI]
        exact ⟨by first | rfl | (rw [← q]), rfl⟩
    · obtain ⟨hT, hI⟩ := num_fin (by omega) (digs_end hrel hlt) wr
      have HT := Lib.hid hT
      have q : decide ((0 : Int) < (n : Int)) = decide (0 < n) := decide_eq_decide.2 (by omega)
      clear hrel hT
      go_wp2_with (go_at_call 50; (with_reducible refine HT.out.mono ?_); rintro e w1 ⟨rfl, hw1⟩; subst w1)
      go_ret2
      unfold NumIs
      rw [hI]
      exact ⟨by first | rfl | (rw [← q]), rfl⟩
def ordN (a b : List UInt8) : Int :=
  if isNum a = false then (if isNum b = false then 0 else 1) else if isNum b = false then -1 else if cmpZ (numL a).length (numL b).length = 0 then cmpL (numL a) (numL b) else cmpZ (numL a).length (numL b).length
def ordL (comp : Int) (a b : List UInt8) : Int := if comp = 3 then ordN a b else cmpL (keyL comp a) (keyL comp b)
theorem two0 (w : World) (a b : Value) (t : TypeId) : (w.alloc (.cells #[a, b] t)).cell? ⟨w.heap.size, 0, none⟩ = some a := by
  have := cells_new w [a, b] t 0 _ rfl
  rwa [Addr.add_lit] at this
theorem two1 (w : World) (a b : Value) (t : TypeId) : (w.alloc (.cells #[a, b] t)).cell? ⟨w.heap.size, 1, none⟩ = some b := by
  have := cells_new w [a, b] t 1 _ rfl
  rwa [Addr.add_lit] at this
set_option maxHeartbeats 1000000 in
set_option maxRecDepth 100000 in
theorem order_any (comp : Int) (a b : ByteArray) (w : World) (hS : Spans w) (ha : a.size ≤ 10000000) (hb : b.size ≤ 10000000) :
    Calls Tryd.prog 16 #[.int .i64 comp, .string a, .string b] w fun e w' => e = .returned (.int .i64 (ordL comp a.data.toList b.data.toList)) ∧ Below w.heap.size w w' := by
  have tb := Below.refl w.heap.size w
  unfold ordL
  by_cases h3 : comp = 3
  · subst h3
    rw [if_pos rfl]
    have hNA := fun w => number_any a w ha
    have hNB := fun w => number_any b w hb
    unfold NumIs at hNA hNB
    unfold ordN
    have la : (numL a.data.toList).length ≤ 10000000 := by
      have h1 : (digs a.data.toList).length ≤ a.data.toList.length := (List.takeWhile_sublist _).length_le
      have h2 : (numL a.data.toList).length ≤ (digs a.data.toList).length := (List.dropWhile_sublist _).length_le
      have h3 : a.data.toList.length = a.size := rfl
      omega
    have lb : (numL b.data.toList).length ≤ 10000000 := by
      have h1 : (digs b.data.toList).length ≤ b.data.toList.length := (List.takeWhile_sublist _).length_le
      have h2 : (numL b.data.toList).length ≤ (digs b.data.toList).length := (List.dropWhile_sublist _).length_le
      have h3 : b.data.toList.length = b.size := rfl
      omega
    obtain ⟨X, hX, hXl, hXs⟩ : ∃ X : ByteArray, X = ⟨(numL a.data.toList).toArray⟩ ∧ X.data.toList = numL a.data.toList ∧ X.size = (numL a.data.toList).length := ⟨_, rfl, by simp, by simp [ByteArray.size]⟩
    obtain ⟨Y, hY, hYl, hYs⟩ : ∃ X : ByteArray, X = ⟨(numL b.data.toList).toArray⟩ ∧ X.data.toList = numL b.data.toList ∧ X.size = (numL b.data.toList).length := ⟨_, rfl, by simp, by simp [ByteArray.size]⟩
    rw [← hX] at hNA
    rw [← hY] at hNB
    rw [← hXs] at la ⊢
    rw [← hYs] at lb ⊢
    rw [← hXl, ← hYl]
    generalize isNum a.data.toList = p at hNA ⊢
    generalize isNum b.data.toList = q at hNB ⊢
    have HNA := Lib.hid hNA
    have HNB := Lib.hid hNB
    clear hNA hNB hX hXl hXs hY hYl hYs hS
    cases p with
    | false =>
      rw [if_pos rfl]
      cases q with
      | false =>
        rw [if_pos rfl]
        go_enter Tryd.func16, Tryd.ntmps16
        go_wp2_with (first
            | (go_at_call 32; (with_reducible refine (HNA.out _).mono ?_); rintro e w1 ⟨rfl, rfl⟩)
            | (go_at_call 32; (with_reducible refine (HNB.out _).mono ?_); rintro e w1 ⟨rfl, rfl⟩))
        go_ret
        exact ⟨rfl, tb⟩
      | true =>
        rw [if_neg (by decide)]
        go_enter Tryd.func16, Tryd.ntmps16
        go_wp2_with (first
            | (go_at_call 32; (with_reducible refine (HNA.out _).mono ?_); rintro e w1 ⟨rfl, rfl⟩)
            | (go_at_call 32; (with_reducible refine (HNB.out _).mono ?_); rintro e w1 ⟨rfl, rfl⟩))
        go_ret
        exact ⟨rfl, tb⟩
    | true =>
      rw [if_neg (by decide)]
      cases q with
      | false =>
        rw [if_pos rfl]
        go_enter Tryd.func16, Tryd.ntmps16
        go_wp2_with (first
            | (go_at_call 32; (with_reducible refine (HNA.out _).mono ?_); rintro e w1 ⟨rfl, rfl⟩)
            | (go_at_call 32; (with_reducible refine (HNB.out _).mono ?_); rintro e w1 ⟨rfl, rfl⟩))
        go_ret
        exact ⟨rfl, tb⟩
      | true =>
        rw [if_neg (by decide)]
        have HCI := Lib.hid fun w => cmpI_any (X.size : Int) (Y.size : Int) w
        have HCS := Lib.hid fun w => cmpS_any X Y w
        generalize cmpZ (X.size : Int) (Y.size : Int) = c at HCI ⊢
        generalize cmpL X.data.toList Y.data.toList = d at HCS ⊢
        have hO := fun (W : World) => or_any c d W.heap.size (W.alloc (.cells #[.int .i64 c, .int .i64 d] 3)) (two0 _ _ _ _) (two1 _ _ _ _)
        generalize (if c = 0 then d else c) = v at hO ⊢
        have HO := Lib.hid hO
        clear hO
        have tb2 : Below w.heap.size w (w.alloc (.cells #[.int .i64 c, .int .i64 d] 3)) := tb.alloc (Nat.le_refl _) _
        go_enter Tryd.func16, Tryd.ntmps16
        go_wp2_with (first
            | (go_at_call 32; (with_reducible refine (HNA.out _).mono ?_); rintro e w1 ⟨rfl, rfl⟩)
            | (go_at_call 32; (with_reducible refine (HNB.out _).mono ?_); rintro e w1 ⟨rfl, rfl⟩)
            | (go_at_call 34; (with_reducible refine (HCI.out _).mono ?_); rintro e w1 ⟨rfl, rfl⟩)
            | (go_at_call 30; (with_reducible refine (HCS.out _).mono ?_); rintro e w1 ⟨rfl, rfl⟩)
            | (go_at_call 33; (with_reducible refine (HO.out _).mono ?_); rintro e w1 ⟨rfl, rfl⟩))
        go_ret
        exact ⟨rfl, tb2⟩
  · rw [if_neg h3]
    have q1 : (comp != 3) = true := by simp [h3]
    have hKA := fun w' (tb : Below w.heap.size w w') => key_any comp a w' (hS.later tb) ha
    have hKB := fun w' (tb : Below w.heap.size w w') => key_any comp b w' (hS.later tb) hb
    obtain ⟨X, hX, hXl⟩ : ∃ X : ByteArray, X = ⟨(keyL comp a.data.toList).toArray⟩ ∧ X.data.toList = keyL comp a.data.toList := ⟨_, rfl, by simp⟩
    obtain ⟨Y, hY, hYl⟩ : ∃ X : ByteArray, X = ⟨(keyL comp b.data.toList).toArray⟩ ∧ X.data.toList = keyL comp b.data.toList := ⟨_, rfl, by simp⟩
    rw [← hX] at hKA
    rw [← hY] at hKB
    rw [← hXl, ← hYl]
    have HKA := Lib.hid hKA
    have HKB := Lib.hid hKB
    have HCS := Lib.hid fun w => cmpS_any X Y w
    generalize cmpL X.data.toList Y.data.toList = d at HCS ⊢
    clear hKA hKB hX hXl hY hYl hS
    go_enter Tryd.func16, Tryd.ntmps16
    go_wp2_with (first
            | (go_at_call 31; (with_reducible refine (HKA.out _ tb).mono ?_); rintro e w1 ⟨rfl, hb1⟩; have tb := tb.trans (hb1.mono tb.size))
            | (go_at_call 31; (with_reducible refine (HKB.out _ tb).mono ?_); rintro e w1 ⟨rfl, hb1⟩; have tb := tb.trans (hb1.mono tb.size))
            | (go_at_call 30; (with_reducible refine (HCS.out _).mono ?_); rintro e w1 ⟨rfl, rfl⟩))
    go_ret
    exact ⟨rfl, tb⟩
end Go.Proofs.YtlbnhkojfefccaaDoor
