/- Walks: comparing strings and numbers; the key of a collation. -/
import Derived.Test.YtlbnhkojfefccaaDoorFold2
namespace Go.Proofs.YtlbnhkojfefccaaDoor
open Go.RowKit Pk U8 Fo

def cmpL (a b : List UInt8) : Int := if Go.Op.bytesLess a b = true then -1 else if (a == b) = true then 0 else 1
def cmpZ (a b : Int) : Int := if a < b then -1 else if b < a then 1 else 0
set_option maxRecDepth 100000 in
theorem cmpS_any (a b : ByteArray) (w : World) : Calls Tryd.prog 30 #[.string a, .string b] w fun e w' => e = .returned (.int .i64 (cmpL a.data.toList b.data.toList)) ∧ w = w' := by
  have hN : ∀ (s : ByteArray) (w : World), Calls Tryd.prog 49 #[.string s] w fun e w' => e = .returned (.bool false) ∧ w = w' := fun s w => by
    go_enter Tryd.func49, Tryd.ntmps49
    go_wp2
    go_ret
    exact ⟨rfl, rfl⟩
  have HN := Lib.hid hN
  clear hN
  rw [← Lib.toList_data, ← Lib.toList_data]
  obtain ⟨v, hv⟩ : ∃ v, v = cmpL a.toList b.toList := ⟨_, rfl⟩
  rw [← hv]
  unfold cmpL at hv
  cases h1 : Go.Op.bytesLess a.toList b.toList with
  | true =>
    obtain rfl : v = -1 := by rw [hv, h1]; rfl
    clear hv
    go_enter Tryd.func30, Tryd.ntmps30
    go_wp2_with (go_at_call 49; (with_reducible refine (HN.out _ _).mono ?_); rintro e w1 ⟨rfl, rfl⟩)
    go_ret
    exact ⟨rfl, rfl⟩
  | false =>
    cases h2 : (a.toList == b.toList) with
    | true =>
      obtain rfl : v = 0 := by rw [hv, h1, h2]; rfl
      clear hv
      go_enter Tryd.func30, Tryd.ntmps30
      go_wp2_with (go_at_call 49; (with_reducible refine (HN.out _ _).mono ?_); rintro e w1 ⟨rfl, rfl⟩)
      go_ret
      exact ⟨rfl, rfl⟩
    | false =>
      obtain rfl : v = 1 := by rw [hv, h1, h2]; rfl
      clear hv
      go_enter Tryd.func30, Tryd.ntmps30
      go_wp2_with (go_at_call 49; (with_reducible refine (HN.out _ _).mono ?_); rintro e w1 ⟨rfl, rfl⟩)
      go_ret
      exact ⟨rfl, rfl⟩
set_option maxRecDepth 100000 in
theorem cmpI_any (a b : Int) (w : World) : Calls Tryd.prog 34 #[.int .i64 a, .int .i64 b] w fun e w' => e = .returned (.int .i64 (cmpZ a b)) ∧ w = w' := by
  have hN : ∀ (s : Int) (w : World), Calls Tryd.prog 51 #[.int .i64 s] w fun e w' => e = .returned (.bool false) ∧ w = w' := fun s w => by
    go_enter Tryd.func51, Tryd.ntmps51
    go_wp2
    go_ret
    exact ⟨rfl, rfl⟩
  have HN := Lib.hid hN
  clear hN
  unfold cmpZ
  by_cases h1 : a < b
  · rw [if_pos h1]
    go_enter Tryd.func34, Tryd.ntmps34
    go_wp2_with (go_at_call 51; (with_reducible refine (HN.out _ _).mono ?_); rintro e w1 ⟨rfl, rfl⟩)
    go_ret
    exact ⟨rfl, rfl⟩
  · rw [if_neg h1]
    by_cases h2 : b < a
    · rw [if_pos h2]
      go_enter Tryd.func34, Tryd.ntmps34
      go_wp2_with (go_at_call 51; (with_reducible refine (HN.out _ _).mono ?_); rintro e w1 ⟨rfl, rfl⟩)
      go_ret
      exact ⟨rfl, rfl⟩
    · rw [if_neg h2]
      go_enter Tryd.func34, Tryd.ntmps34
      go_wp2_with (go_at_call 51; (with_reducible refine (HN.out _ _).mono ?_); rintro e w1 ⟨rfl, rfl⟩)
      go_ret
      exact ⟨rfl, rfl⟩
set_option maxRecDepth 100000 in
theorem or_any (x y : Int) (b : Nat) (w : World) (h0 : w.cell? ⟨b, 0, none⟩ = some (.int .i64 x)) (h1 : w.cell? ⟨b, 1, none⟩ = some (.int .i64 y)) :
    Calls Tryd.prog 33 #[.slice (some ⟨b, 0, none⟩) 2 2] w fun e w' => e = .returned (.int .i64 (if x = 0 then y else x)) ∧ w = w' := by
  by_cases hx : x = 0
  · subst hx
    rw [if_pos rfl]
    by_cases hy : y = 0
    · subst hy
      go_enter Tryd.func33, Tryd.ntmps33
      go_wp2
      go_loopw [8] (fun iv wi => ∃ (i : Nat), iv = .int .i64 i ∧ wi = w ∧ i ≤ 2) (fun iv _ => 2 - (intOf iv).toNat)
      case atStart => exact ⟨0, by first | rfl | trivial, rfl, by omega⟩
      case round =>
        obtain ⟨i, rfl, rfl, hi⟩ := hrel
        rcases (show i = 0 ∨ i = 1 ∨ i = 2 by omega) with rfl | rfl | rfl
        · go_wp2
          go_roundw
          case rel => exact ⟨1, by first | rfl | trivial, by first | rfl | trivial, by omega⟩
          case measure => simp [intOf]
        · go_wp2
          go_roundw
          case rel => exact ⟨2, by first | rfl | trivial, by first | rfl | trivial, by omega⟩
          case measure => simp [intOf]
        · go_wp2
          go_ret
          exact ⟨rfl, rfl⟩
    · have q1 : (y != 0) = true := by simp [hy]
      go_enter Tryd.func33, Tryd.ntmps33
      go_wp2
      go_loopw [8] (fun iv wi => ∃ (i : Nat), iv = .int .i64 i ∧ wi = w ∧ i ≤ 1) (fun iv _ => 2 - (intOf iv).toNat)
      case atStart => exact ⟨0, by first | rfl | trivial, rfl, by omega⟩
      case round =>
        obtain ⟨i, rfl, rfl, hi⟩ := hrel
        rcases (show i = 0 ∨ i = 1 by omega) with rfl | rfl
        · go_wp2
          go_roundw
          case rel => exact ⟨1, by first | rfl | trivial, by first | rfl | trivial, by omega⟩
          case measure => simp [intOf]
        · go_wp2
          go_ret
          exact ⟨rfl, rfl⟩
  · rw [if_neg hx]
    have q1 : (x != 0) = true := by simp [hx]
    go_enter Tryd.func33, Tryd.ntmps33
    go_wp2
    go_loopw [8] (fun iv wi => iv = .int .i64 0 ∧ wi = w) (fun iv _ => 0)
    case atStart => exact ⟨by first | rfl | trivial, rfl⟩
    case round =>
      obtain ⟨rfl, rfl⟩ := hrel
      go_wp2
      go_ret
      exact ⟨rfl, rfl⟩
def keyL (comp : Int) (l : List UInt8) : List UInt8 := if comp = 1 then foldL l else l
theorem keyL_length (comp : Int) (l : List UInt8) : (keyL comp l).length ≤ l.length := by
  unfold keyL
  split
  · exact foldL_length l
  · omega
def Spans (w : World) : Prop := ∃ b off cap, SpansAt w b off cap
theorem Spans.later {w w' : World} (h : Spans w) (hb : Below w.heap.size w w') : Spans w' := by
  obtain ⟨b, off, cap, h⟩ := h
  exact ⟨b, off, cap, h.later hb⟩
set_option maxRecDepth 100000 in
theorem key_any (comp : Int) (s : ByteArray) (w : World) (hS : Spans w) (hs : s.size ≤ 10000000) :
    Calls Tryd.prog 31 #[.int .i64 comp, .string s] w fun e w' => e = .returned (.string ⟨(keyL comp s.data.toList).toArray⟩) ∧ Below w.heap.size w w' := by
  obtain ⟨b, off, cap, hS⟩ := hS
  unfold keyL
  by_cases h : comp = 1
  · subst h
    rw [if_pos rfl]
    have HF := Lib.hid (foldP_any s w hs b off cap hS)
    clear hS
    go_enter Tryd.func31, Tryd.ntmps31
    go_wp2_with (go_at_call 12; (with_reducible refine HF.out.mono ?_); rintro e w1 ⟨rfl, hb1⟩)
    go_ret
    exact ⟨rfl, hb1⟩
  · rw [if_neg h]
    have q1 : (comp == 1) = false := beq_eq_false_iff_ne.2 h
    clear hS
    go_enter Tryd.func31, Tryd.ntmps31
    go_wp2
    go_ret
    exact ⟨rfl, Below.refl _ _⟩
end Go.Proofs.YtlbnhkojfefccaaDoor
