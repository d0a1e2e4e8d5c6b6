/- Walks: chapter 09's laws: the fixed examples, few, Same. -/
import Derived.Test.YthchklbnkojkgaaGreatDoorHd7
import Derived.Deep.QuietTactic
import Derived.BigQuiet
namespace Go.Proofs.YthchklbnkojkgaaGreatDoor
open Go.RowKit Pk Hd

/-- what the laws lean on -/
structure Rt (w : World) : Prop where
  ml : ∃ m : Int, w.cell? ⟨2, 0, none⟩ = some (.int .i64 m)
  lt : 2 < w.heap.size
theorem Rt.later {w w' : World} (h : Rt w) (hb : Below w.heap.size w w') : Rt w' := by
  obtain ⟨m, hm⟩ := h.ml
  exact ⟨⟨m, cell_later hb hm⟩, Nat.lt_of_lt_of_le h.lt hb.size⟩
def Truth (w : World) (e : Ending) (w' : World) : Prop := e = .returned (.bool true) ∧ Below w.heap.size w w'
theorem sees_later {w w' : World} {v : Value} {m : List Fld} (h : seesG fldLay w w.heap.size 29 v m) (hb : Below w.heap.size w w') : seesG fldLay w' w'.heap.size 29 v m := h.later hb (Nat.le_refl _)
theorem parse_rt (s : ByteArray) (w : World) (h : Rt w) (hs : s.size ≤ 1000000) : Calls Tryz.prog 12 #[.string s] w (ParIs s w) := by
  obtain ⟨m, hm⟩ := h.ml
  exact parse_any s w m hm hs
theorem get_rt (v : Value) (m : List Fld) (s : ByteArray) (w : World) (h : Rt w) (hs : s.size ≤ 10000000) (hm : m.length ≤ 1000000) (hz : ∀ x ∈ m, x.name.size ≤ 1000000 ∧ x.value.size ≤ 1000000) (hM : seesG fldLay w w.heap.size 29 v m) :
    Calls Tryz.prog 13 #[v, .string s] w (GetIs (allV m s.data.toList) w) := by
  obtain ⟨q, hq⟩ := h.ml
  exact get_any v m s w hs hm hz q hq hM
theorem unfold_rt (s : ByteArray) (w : World) (h : Rt w) (hs : s.size ≤ 100000000) : Calls Tryz.prog 27 #[.string s] w fun e w' => e = .returned (.string (toB (unfoldL s.data.toList))) ∧ Below w.heap.size w w' := by
  obtain ⟨q, hq⟩ := h.ml
  exact unfold_any s w q hq hs
theorem sees_slice {w : World} {C : Nat} {v : Value} {m : List Fld} (h : seesG fldLay w C 29 v m) (n : Nat) (hn : m.length = n) (hm : 0 < n) : ∃ g c, v = .slice (some ⟨g, 0, none⟩) n c ∧ n ≤ c ∧ g < C ∧ ∀ j (hj : j < m.length), w.cell? ⟨g, j * 4, none⟩ = some (.string m[j].name) ∧ w.cell? ⟨g, j * 4 + 1, none⟩ = some (.string m[j].value) ∧ w.cell? ⟨g, j * 4 + 2, none⟩ = some (.string m[j].raw) ∧ w.cell? ⟨g, j * 4 + 3, none⟩ = some (.bool m[j].bad) := by
  obtain ⟨p, c, h1, h2, h3⟩ := h.form
  rcases h3 with h3 | ⟨g, rfl, h4, h5⟩
  · subst h3; simp at hn; omega
  · subst hn; exact ⟨g, c, h1, h2, h4, fun j hj => fld_cells (h5 j hj)⟩
def lit9 : ByteArray := ⟨#[65, 58, 32, 98, 13, 10, 32, 99, 13, 10, 110, 111, 13, 10, 84, 111, 32, 58, 120, 10, 13, 10, 98, 111, 100, 121]⟩
def flds9 : List Fld := [⟨⟨#[65]⟩, ⟨#[32, 98, 13, 10, 32, 99]⟩, ⟨#[65, 58, 32, 98, 13, 10, 32, 99, 13, 10]⟩, false⟩, ⟨⟨#[]⟩, ⟨#[]⟩, ⟨#[110, 111, 13, 10]⟩, true⟩, ⟨⟨#[84, 111]⟩, ⟨#[120]⟩, ⟨#[84, 111, 32, 58, 120, 10]⟩, false⟩]
theorem par9_eq : parS lit9.data.toList = flds9 := by kernel_rfl
theorem end9_eq : endS lit9.data.toList = 22 := by decide +kernel
theorem flds9_z : ∀ x ∈ flds9, x.name.size ≤ 1000000 ∧ x.value.size ≤ 1000000 := fun x hx => by
  unfold flds9 at hx
  simp only [List.mem_cons, List.not_mem_nil, or_false] at hx
  rcases hx with rfl | rfl | rfl <;> exact ⟨by decide, by decide⟩
theorem put9 (s v : ByteArray) (R : Array UInt8) (w : World) (hs : s.size ≤ 100) (hv : v.size ≤ 100) (h : putL s.data.toList v.data.toList = R.toList) : Calls Tryz.prog 11 #[.string s, .string v] w fun e w' => e = .returned (.string ⟨R⟩) ∧ Below w.heap.size w w' := by
  refine (put_any s v w (by omega) (by omega)).mono fun e w' ⟨he, hb⟩ => ⟨?_, hb⟩
  rw [he, h]; rfl
theorem get9 (s : ByteArray) (R : Array UInt8) (t : List ByteArray) (v : Value) (w : World) (h : Rt w) (hM : seesG fldLay w w.heap.size 29 v flds9) (hs : s.size ≤ 100) (he : allV flds9 s.data.toList = ⟨R⟩ :: t) : Calls Tryz.prog 13 #[v, .string s] w fun e w' => e = .returned (.tuple #[.string ⟨R⟩, .bool true]) ∧ Below w.heap.size w w' := by
  refine (get_rt v flds9 s w h (by omega) (by decide) flds9_z hM).mono fun e w' hh => ?_
  unfold GetIs at hh
  rw [he] at hh
  exact hh
theorem get9n (s : ByteArray) (v : Value) (w : World) (h : Rt w) (hM : seesG fldLay w w.heap.size 29 v flds9) (hs : s.size ≤ 100) (he : allV flds9 s.data.toList = []) : Calls Tryz.prog 13 #[v, .string s] w fun e w' => e = .returned (.tuple #[.string ⟨#[]⟩, .bool false]) ∧ Below w.heap.size w w' := by
  refine (get_rt v flds9 s w h (by omega) (by decide) flds9_z hM).mono fun e w' hh => ?_
  unfold GetIs at hh
  rw [he] at hh
  exact hh
set_option maxHeartbeats 8000000 in
set_option maxRecDepth 100000 in
theorem small9_any (w : World) (h : Rt w) : Calls Tryz.prog 8 #[] w (Truth w) := by
  have hS := parse_rt lit9 w h (by decide)
  unfold ParIs at hS
  rw [par9_eq, end9_eq] at hS
  have hS2 : Calls Tryz.prog 12 #[.string ⟨#[65, 58, 32, 98, 13, 10, 32, 99, 13, 10, 110, 111, 13, 10, 84, 111, 32, 58, 120, 10, 13, 10, 98, 111, 100, 121]⟩] w fun e w' => ∃ v, e = .returned (.tuple #[v, .int .i64 22]) ∧ ownsG fldLay w' w.heap.size 29 v flds9 ∧ Below w.heap.size w w' := hS
  have HS := Lib.hid hS2
  have HG1 := Lib.hid (fun v w' hr hM => get9 ⟨#[97]⟩ #[98, 32, 99] [] v w' hr hM (by decide) (by kernel_rfl))
  have HG2 := Lib.hid (fun v w' hr hM => get9 ⟨#[84, 79]⟩ #[120] [] v w' hr hM (by decide) (by kernel_rfl))
  have HG3 := Lib.hid (fun v w' hr hM => get9n ⟨#[110, 111]⟩ v w' hr hM (by decide) (by kernel_rfl))
  have HP1 := Lib.hid (fun w' => put9 ⟨#[83]⟩ ⟨#[32, 97, 10, 98, 32]⟩ #[83, 58, 32, 97, 32, 98, 13, 10] w' (by decide) (by decide) (by decide +kernel))
  have HP2 := Lib.hid (fun w' => put9 ⟨#[97, 32, 98]⟩ ⟨#[]⟩ #[] w' (by decide) (by decide) (by decide +kernel))
  have hu0 : unfoldL [97, 13, 10, 32, 98, 10, 99, 13] = [97, 32, 98, 99, 13] := by decide +kernel
  have hU : ∀ w', Rt w' → Calls Tryz.prog 27 #[.string ⟨#[97, 13, 10, 32, 98, 10, 99, 13]⟩] w' fun e w1 => e = .returned (.string ⟨#[97, 32, 98, 99, 13]⟩) ∧ Below w'.heap.size w' w1 := fun w' hr => by
    have := unfold_rt ⟨#[97, 13, 10, 32, 98, 10, 99, 13]⟩ w' hr (by decide)
    have e : unfoldL (⟨#[97, 13, 10, 32, 98, 10, 99, 13]⟩ : ByteArray).data.toList = [97, 32, 98, 99, 13] := hu0
    rw [e] at this
    exact this
  have HU := Lib.hid hU
  have HR := Lib.hid h
  have tb := Below.refl w.heap.size w
  clear hS hS2 hU h
  go_enter Tryz.func8, Tryz.ntmps8
  go_wp2_with (first
    | (go_at_call 12; (with_reducible refine HS.out.mono ?_); rintro e w1 ⟨v1, rfl, hown1, hb1⟩; have tb := tb.trans hb1; have hs1 := ownsG.sees hown1 (Nat.le_refl _); obtain ⟨g1, c1, rfl, hc1, hg1, hcell1⟩ := sees_slice hs1 3 rfl (by decide))
    | (go_at_call 13; (with_reducible refine (HG1.out _ _ (HR.out.later tb) hs1).mono ?_); rintro e w2 ⟨rfl, hb2⟩; have tb := tb.trans (hb2.mono tb.size); have hs2 := sees_later hs1 hb2)
    | (go_at_call 13; (with_reducible refine (HG2.out _ _ (HR.out.later tb) hs2).mono ?_); rintro e w3 ⟨rfl, hb3⟩; have tb := tb.trans (hb3.mono tb.size); have hs3 := sees_later hs2 hb3)
    | (go_at_call 13; (with_reducible refine (HG3.out _ _ (HR.out.later tb) hs3).mono ?_); rintro e w4 ⟨rfl, hb4⟩; have tb := tb.trans (hb4.mono tb.size); have b0 := cell_later hb4 (cell_later hb3 (cell_later hb2 (hcell1 1 (by decide)).2.2.1)); have b1 := cell_later hb4 (cell_later hb3 (cell_later hb2 (hcell1 1 (by decide)).2.2.2)); have b2 := cell_later hb4 (cell_later hb3 (cell_later hb2 (hcell1 2 (by decide)).1)); have a0 : w4.cell? ⟨g1, 6, none⟩ = some (.string ⟨#[110, 111, 13, 10]⟩) := b0; have a1 : w4.cell? ⟨g1, 7, none⟩ = some (.bool true) := b1; have a2 : w4.cell? ⟨g1, 8, none⟩ = some (.string ⟨#[84, 111]⟩) := b2; clear hcell1 b0 b1 b2)
    | (go_at_call 11; (with_reducible refine (HP1.out _).mono ?_); rintro e w5 ⟨rfl, hb5⟩; have tb := tb.trans (hb5.mono tb.size))
    | (go_at_call 11; (with_reducible refine (HP2.out _).mono ?_); rintro e w6 ⟨rfl, hb6⟩; have tb := tb.trans (hb6.mono tb.size))
    | (go_at_call 27; (with_reducible refine (HU.out _ (HR.out.later tb)).mono ?_); rintro e w7 ⟨rfl, hb7⟩; have tb := tb.trans (hb7.mono tb.size)))
  go_ret
  exact ⟨rfl, tb⟩
set_option maxHeartbeats 400000 in
theorem few9_any (s : ByteArray) (w : World) : Calls Tryz.prog 9 #[.string s] w fun e w' => e = .returned (.bool (decide (s.size ≤ 5000))) ∧ w = w' := by
  have e : decide (s.size ≤ 5000) = decide ((s.size : Int) ≤ 5000) := decide_eq_decide.2 (by omega)
  rw [e]
  clear e
  go_enter Tryz.func9, Tryz.ntmps9
  go_wp2
  go_ret
  exact ⟨rfl, rfl⟩
set_option maxHeartbeats 4000000 in
set_option maxRecDepth 100000 in
theorem same9_refl (va vb : Value) (m : List Fld) (w : World) (hA : seesG fldLay w w.heap.size 29 va m) (hB : seesG fldLay w w.heap.size 29 vb m) (hm : m.length ≤ 1000000) :
    Calls Tryz.prog 20 #[va, vb] w fun e w' => e = .returned (.bool true) ∧ Below w.heap.size w w' := by
  obtain ⟨pa, ca, rfl, hca, hA⟩ := hA.form
  obtain ⟨pb, cb, rfl, hcb, hB⟩ := hB.form
  rcases hA with rfl | ⟨ga, rfl, hga, hA⟩
  · clear hB
    go_enter Tryz.func20, Tryz.ntmps20
    go_wp2
    go_loopw [5] (fun iv wr => iv = .int .i64 0 ∧ wr = w) (fun iv _ => 0)
    case atStart => exact ⟨by first | rfl | trivial, rfl⟩
    case round =>
      obtain ⟨rfl, rfl⟩ := hrel
      go_wp2
      go_ret
      exact ⟨rfl, Below.refl _ _⟩
  · rcases hB with rfl | ⟨gb, rfl, hgb, hB⟩
    · clear hA
      go_enter Tryz.func20, Tryz.ntmps20
      go_wp2
      go_loopw [5] (fun iv wr => iv = .int .i64 0 ∧ wr = w) (fun iv _ => 0)
      case atStart => exact ⟨by first | rfl | trivial, rfl⟩
      case round =>
        obtain ⟨rfl, rfl⟩ := hrel
        go_wp2
        go_ret
        exact ⟨rfl, Below.refl _ _⟩
    · have HA := Lib.hid hA
      have HB := Lib.hid hB
      clear hA hB
      go_enter Tryz.func20, Tryz.ntmps20
      go_wp2
      go_loopw [5] (fun iv wr => ∃ i : Nat, iv = .int .i64 i ∧ i ≤ m.length ∧ Below w.heap.size w wr) (fun iv _ => m.length - (intOf iv).toNat)
      case atStart => exact ⟨0, by first | rfl | trivial, by omega, Below.refl _ _⟩
      case round =>
        obtain ⟨i, rfl, hi, hbel⟩ := hrel
        have hz := hbel.size
        by_cases hlt : i < m.length
        · obtain ⟨a0, a1, a2, a3⟩ := fld_cells (HA.out i hlt)
          obtain ⟨b0, b1, b2, b3⟩ := fld_cells (HB.out i hlt)
          have a0 := cell_later hbel a0
          have a1 := cell_later hbel a1
          have a2 := cell_later hbel a2
          have a3 := cell_later hbel a3
          have b0 := cell_later hbel b0
          have b1 := cell_later hbel b1
          have b2 := cell_later hbel b2
          have b3 := cell_later hbel b3
          generalize m[i].name = x0 at *
          generalize m[i].value = x1 at *
          generalize m[i].raw = x2 at *
          generalize m[i].bad = x3 at *
          have z0 : (0 : Int) ≤ (i : Int) := by omega
          have z1 : (i : Int) < (m.length : Int) := by omega
          go_wp2
          go_quiet (fail)
          go_wp2
          go_roundw
          case rel => exact ⟨i + 1, by go_num, by omega, hbel.trans ((drewN_below _ _).mono hz)⟩
          case measure => simp [intOf]; omega
        · go_wp2
          go_ret
          exact ⟨rfl, hbel⟩
end Go.Proofs.YthchklbnkojkgaaGreatDoor
