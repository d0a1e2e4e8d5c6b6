/- Walks: the program's codec: B64's closure. -/
import Derived.Test.YtgkbjgmcgbnnaaaDoorCod6
import Derived.Test.YtgkbjgmcgbnnaaaDoorSpec6b
import Derived.OneCell
import Derived.Lib.SlBuf
namespace Go.Proofs.YtgkbjgmcgbnnaaaDoor
open Go.RowKit Pk C6 Hx

theorem bldAt_setOther {w : World} {T e : TypeId} {B b g : Nat} {p v u : Value} {t : TypeId} {bs : List Value} {fz : Nat × Nat} (h : Lib.BuilderAtF T e B b p bs w) (hg : w.heap[g]? = some (.cells #[v] t fz)) (hgb : g ≠ b) (hte : t ≠ e) : Lib.BuilderAtF T e B b p bs (w.setCell ⟨g, 0, none⟩ u) := by
  obtain ⟨hB, x, hbk, hown, hne⟩ := h
  refine ⟨hB, x, ?_, ⟨hown.1, ?_⟩, hne⟩
  · rw [Below.heap_setCell _ _ _ _ (fun e => hgb e.symm)]; exact hbk
  · rcases hown.2 with hn | hr
    · exact .inl hn
    · right
      obtain ⟨g', cap, cur, f, h1, h2, h3, h4⟩ := hr
      refine ⟨g', cap, cur, f, h1, h2, ?_, h4⟩
      rw [Below.heap_setCell _ _ _ _ (fun e => ?_)]
      · exact h3
      · subst e
        rw [h3] at hg; simp at hg; exact hte hg.2.1.symm
theorem Bld.setOther {w : World} {B b g : Nat} {l : List UInt8} {v u : Value} {fz : Nat × Nat} (h : Bld w B b l) (hg : w.heap[g]? = some (.cells #[v] 3 fz)) (hgb : g ≠ b) : Bld (w.setCell ⟨g, 0, none⟩ u) B b l := by
  rcases h with h | h
  · exact .inl (bldAt_setOther h hg hgb (by decide))
  · exact .inr (bldAt_setOther h hg hgb (by decide))

/-- what 'put' writes -/
def pb (n : Nat) (c : UInt8) : List UInt8 := if (n + 1) % 76 = 0 then [c, 13, 10] else [c]
def pbR : Nat → List UInt8 → List UInt8
  | n, [] => if n % 76 = 0 then [] else [13, 10]
  | n, c :: r => pb n c ++ pbR (n + 1) r
theorem brk_pbR : ∀ (l : List UInt8) (n : Nat), l ≠ [] → brk n l = pbR n l
  | [c], n, _ => by
    simp only [brk, pbR, pb]
    by_cases h : (n + 1) % 76 = 0 <;> simp [h]
  | c :: d :: r, n, _ => by
    rw [brk, pbR, brk_pbR (d :: r) (n + 1) (by simp)]
    unfold pb
    by_cases h : (n + 1) % 76 = 0
    · rw [if_pos (by omega), if_pos h]; rfl
    · rw [if_neg (by omega), if_neg h]; rfl
theorem b64R_pbR (l : List UInt8) : b64R l = pbR 0 (sgR l) := by
  unfold b64R
  cases h : sgR l with
  | nil => rfl
  | cons c r => exact brk_pbR _ 0 (by simp)
theorem pb_step {acc r X : List UInt8} {n : Nat} {c : UInt8} (h : Hid (acc ++ pbR n (c :: r) = X)) : Hid (acc ++ pb n c ++ pbR (n + 1) r = X) := by
  have e := h.out
  rw [pbR] at e
  show _ = _
  rw [← e]; simp
theorem pb_len (n : Nat) (c : UInt8) : (pb n c).length ≤ 3 := by unfold pb; split <;> simp

set_option maxHeartbeats 1000000 in
theorem put_any (B b g n : Nat) (l : List UInt8) (c : UInt8) (w : World) (hB : Bld w B b l) (hg : w.heap[g]? = some (.cells #[.int .i64 n] 3 (0, 0))) (hgb : g ≠ b) (hgB : B ≤ g) (hl : l.length + 3 ≤ 140737488355328) (hn : n ≤ 140737488355328) (hBw : B ≤ w.heap.size) :
    Calls Tryd.prog 24 #[.int .u8 c.toNat, .pointer (some ⟨b, 0, none⟩), .pointer (some ⟨g, 0, none⟩)] w fun e w' => e = .returned (.tuple #[]) ∧ Bld w' B b (l ++ pb n c) ∧ w'.heap[g]? = some (.cells #[.int .i64 (n + 1 : Nat)] 3 (0, 0)) ∧ Below B w w' := by
  have hwr : IntKind.i64.wrap ((n : Int) + 1) = (n : Int) + 1 := by rw [IntKind.wrap_i64]; omega
  have htm : Int.tmod ((n : Int) + 1) 76 = ((n : Int) + 1) % 76 := Int.tmod_eq_emod_of_nonneg (by omega)
  by_cases hz : (n + 1) % 76 = 0
  · have hpb : pb n c = [c, 13, 10] := by unfold pb; rw [if_pos hz]
    have hq : (((n : Int) + 1) % 76 == 0) = true := beq_iff_eq.2 (by omega)
    have HP := Lib.hid hpb
    clear hpb hz
    go_enter Tryd.func24, Tryd.ntmps24
    go_wp2_with (first
      | (go_at_call 25; refine (wbc _ _ _ _ _ hB (by omega) (by omega)).mono ?_; rintro e w' ⟨rfl, hB1, hb1, hk1⟩; have hg1 := hk1 g _ hg (by simpa using hgb) (by intro c fz; simp); have hz1 := hb1.size; have hc1 := cell_of_one hg1; have hf1 := free_of_one hg1; have hB2 := hB1.setOther (u := .int .i64 ((n : Int) + 1)) hg1 hgb; have hg2 := one_setCell (u := .int .i64 ((n : Int) + 1)) hg1; have hc2 := cell_of_one hg2)
      | (go_at_call 26; refine (ws _ _ _ _ _ hB2 (by rw [List.length_append]; show l.length + 1 + 2 ≤ _; omega) (by show B ≤ (World.setCell _ _ _).heap.size; simp; omega)).mono ?_; rintro e w' ⟨rfl, hB3, hb3, hk3⟩))
    go_end0
    rw [HP.out]
    refine ⟨rfl, ?_, ?_, (hb1.setCell hgB _).trans hb3⟩
    · simpa using hB3
    · have := hk3 g _ hg2 (by simpa using hgb) (by intro c fz; simp)
      simpa using this
  · have hpb : pb n c = [c] := by unfold pb; rw [if_neg hz]
    have hq : (((n : Int) + 1) % 76 == 0) = false := beq_eq_false_iff_ne.2 (by omega)
    have HP := Lib.hid hpb
    clear hpb hz
    go_enter Tryd.func24, Tryd.ntmps24
    go_wp2_with (go_at_call 25; refine (wbc _ _ _ _ _ hB (by omega) (by omega)).mono ?_; rintro e w' ⟨rfl, hB1, hb1, hk1⟩; have hg1 := hk1 g _ hg (by simpa using hgb) (by intro c fz; simp); have hz1 := hb1.size; have hc1 := cell_of_one hg1; have hf1 := free_of_one hg1; have hB2 := hB1.setOther (u := .int .i64 ((n : Int) + 1)) hg1 hgb; have hg2 := one_setCell (u := .int .i64 ((n : Int) + 1)) hg1; have hc2 := cell_of_one hg2)
    go_end0
    rw [HP.out]
    refine ⟨rfl, hB2, ?_, hb1.setCell hgB _⟩
    simpa using hg2
end Go.Proofs.YtgkbjgmcgbnnaaaDoor
