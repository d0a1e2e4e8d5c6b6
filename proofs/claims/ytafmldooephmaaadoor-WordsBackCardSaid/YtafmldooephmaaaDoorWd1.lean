/- Walks: words: seen, blank, word. -/
import Derived.Test.YtafmldooephmaaaDoorWdQ
import Derived.Test.YtafmldooephmaaaDoorCsQ
import Derived.Test.YtafmldooephmaaaDoorCod6g
namespace Go.Proofs.YtafmldooephmaaaDoor
open Go.RowKit Pk U8 Cs Wd

set_option maxRecDepth 100000 in
theorem wseen_any (c : UInt8) (w : World) : Calls Tryd.prog 37 #[.int .u8 c.toNat] w fun e w' => e = .returned (.bool (vis c)) ∧ w = w' := by
  have hc := c.toNat_lt
  by_cases h1 : 32 < c.toNat
  · have e : vis c = decide ((c.toNat : Int) < 127) := by unfold vis; rw [decide_eq_true h1, Bool.true_and]; exact decide_eq_decide.2 (by omega)
    rw [e]
    clear e
    go_enter Tryd.func37, Tryd.ntmps37
    go_wp2
    go_ret
    exact ⟨rfl, rfl⟩
  · have e : vis c = false := by unfold vis; rw [decide_eq_false h1]; rfl
    rw [e]
    clear e
    go_enter Tryd.func37, Tryd.ntmps37
    go_wp2
    go_ret
    exact ⟨rfl, rfl⟩
set_option maxRecDepth 100000 in
theorem wblank_any (c : UInt8) (w : World) : Calls Tryd.prog 18 #[.int .u8 c.toNat] w fun e w' => e = .returned (.bool (Su.blk c)) ∧ w = w' := by
  have hb : Su.blk c = ((((c.toNat : Int) == 9) || ((c.toNat : Int) == 10)) || ((c.toNat : Int) == 13) || ((c.toNat : Int) == 32)) := by
    have := c.toNat_lt
    have e : ∀ n : Nat, n < 256 → Su.blk (UInt8.ofNat n) = ((((n : Int) == 9) || ((n : Int) == 10)) || ((n : Int) == 13) || ((n : Int) == 32)) := by decide +kernel
    have := e c.toNat c.toNat_lt
    simpa using this
  rw [hb]
  cases h1 : ((c.toNat : Int) == 9)
  · cases h2 : ((c.toNat : Int) == 10)
    · cases h3 : ((c.toNat : Int) == 13)
      · cases h4 : ((c.toNat : Int) == 32)
        all_goals
          go_enter Tryd.func18, Tryd.ntmps18
          go_wp2
          go_ret
          exact ⟨rfl, rfl⟩
      · go_enter Tryd.func18, Tryd.ntmps18
        go_wp2
        go_ret
        exact ⟨rfl, rfl⟩
    · go_enter Tryd.func18, Tryd.ntmps18
      go_wp2
      go_ret
      exact ⟨rfl, rfl⟩
  · go_enter Tryd.func18, Tryd.ntmps18
    go_wp2
    go_ret
    exact ⟨rfl, rfl⟩
/-- what the calls of words lean on -/
structure Rdy (w : World) : Prop where
  tabs : Tabs w
  max : ∃ m, w.cell? ⟨2, 0, none⟩ = some (.int .i64 m)
theorem Rdy.later {w w' : World} (h : Rdy w) (hb : Below w.heap.size w w') : Rdy w' := ⟨h.tabs.later hb, by obtain ⟨m, hm⟩ := h.max; exact ⟨m, cell_later hb hm⟩⟩
def WordIs (s : ByteArray) (w : World) (e : Ending) (w' : World) : Prop := e = .returned (.tuple #[.string ⟨(frontT s.data.toList).1.toArray⟩, .int .i64 (frontT s.data.toList).2]) ∧ Below w.heap.size w w'
theorem cutp (l : List UInt8) : (Lib.hasPrefix l [61, 63] = true ∧ ∃ r, l = 61 :: 63 :: r ∧ Lib.trimPrefix l [61, 63] = r) ∨ (Lib.hasPrefix l [61, 63] = false ∧ ∀ r, l ≠ 61 :: 63 :: r) := by
  unfold Lib.hasPrefix Lib.trimPrefix
  match l with
  | [] => exact .inr ⟨rfl, by simp⟩
  | [a] => exact .inr ⟨by simp [List.isPrefixOf], by simp⟩
  | a :: b :: r =>
    by_cases ha : a = 61
    · by_cases hb : b = 63
      · subst ha; subst hb
        exact .inl ⟨by simp [List.isPrefixOf], r, rfl, by simp [Lib.hasPrefix, List.isPrefixOf]⟩
      · refine .inr ⟨by simp [List.isPrefixOf, ha]; exact fun e => hb e.symm, fun r' e => ?_⟩
        injection e with e1 e2
        injection e2 with e2 e3
        exact hb e2
    · refine .inr ⟨by simp [List.isPrefixOf]; exact fun e => absurd e.symm ha, fun r' e => ?_⟩
      injection e with e1 e2
      exact ha e1
set_option maxHeartbeats 2000000 in
set_option maxRecDepth 100000 in
theorem word_no (s : ByteArray) (w : World) (h : Lib.hasPrefix s.data.toList [61, 63] = false ∧ ∀ r, s.data.toList ≠ 61 :: 63 :: r) : Calls Tryd.prog 15 #[.string s] w (WordIs s w) := by
  have hf : Hid (WordIs s w (.returned (.tuple #[.string ⟨#[]⟩, .int .i64 0])) w) := by
    unfold WordIs
    rw [frontT_none (front_other h.2)]
    exact ⟨rfl, Below.refl _ _⟩
  have hc := Tryd.strings_CutPrefix s ⟨#[61, 63]⟩ w
  rw [show (⟨#[61, 63]⟩ : ByteArray).data.toList = [61, 63] from rfl, h.1] at hc
  have HC := Lib.hid hc
  clear hc h
  go_enter Tryd.func15, Tryd.ntmps15
  go_wp2_with (go_at_call 34; (with_reducible refine (HC.out).mono ?_); rintro e w1 ⟨rfl, rfl⟩)
  go_ret2
  exact hf.out
end Go.Proofs.YtafmldooephmaaaDoor
