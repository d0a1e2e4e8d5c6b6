/- Walks: chapter 10's laws: the fixed examples. -/
import Derived.Test.YtlhmdooeffmedaaGreatDoorLaw10
import Derived.Deep.RegionHeld3
import Derived.Deep.DrawnRows
namespace Go.Proofs.YtlhmdooeffmedaaGreatDoor
open Go.RowKit Pk Tk Su Fo Rp

attribute [local go_sem ↓] Go.wp_at_zero Go.wp_at_succ
def lit0 : ByteArray := ⟨#[97, 32, 34, 98, 92, 34, 99, 34, 32, 40, 100, 40, 101, 41, 41, 60, 91, 102, 92, 93, 93, 62, 1, 34, 103]⟩
def toks0 : List El := [⟨1, ⟨#[97]⟩⟩, ⟨6, ⟨#[32]⟩⟩, ⟨2, ⟨#[34, 98, 92, 34, 99, 34]⟩⟩, ⟨6, ⟨#[32]⟩⟩, ⟨3, ⟨#[40, 100, 40, 101, 41, 41]⟩⟩, ⟨4, ⟨#[60]⟩⟩, ⟨5, ⟨#[91, 102, 92, 93, 93]⟩⟩, ⟨4, ⟨#[62]⟩⟩, ⟨7, ⟨#[1]⟩⟩, ⟨7, ⟨#[34, 103]⟩⟩]
def bare0 : List El := [⟨1, ⟨#[97]⟩⟩, ⟨2, ⟨#[34, 98, 92, 34, 99, 34]⟩⟩, ⟨4, ⟨#[60]⟩⟩, ⟨5, ⟨#[91, 102, 92, 93, 93]⟩⟩, ⟨4, ⟨#[62]⟩⟩, ⟨7, ⟨#[1]⟩⟩, ⟨7, ⟨#[34, 103]⟩⟩]
theorem toks0_eq : sc lit0.data.toList = toks0 := by kernel_rfl
theorem bare0_eq : bareE toks0 = bare0 := by kernel_rfl
theorem join0_eq : joinE bare0 = [97, 34, 98, 92, 34, 99, 34, 60, 91, 102, 92, 93, 93, 62, 1, 34, 103] := by decide +kernel
theorem val0 (k : Int) (T : ByteArray) (R : Array UInt8) (w : World) (hT : T.size ≤ 100) (h : valI k T.data.toList = R.toList) : Calls Tryz.prog 15 #[.agg #[.int .i64 k, .string T]] w fun e w' => e = .returned (.string ⟨R⟩) ∧ Below w.heap.size w w' := by
  refine (value_any k T w (by omega)).mono fun e w' ⟨he, hb⟩ => ⟨?_, hb⟩
  rw [he, h]
theorem quo0 (T : ByteArray) (R : Array UInt8) (w : World) (hr : Rt w) (hT : T.size ≤ 100) (h : quoteL T.data.toList = R.toList) : Calls Tryz.prog 13 #[.string T] w fun e w' => e = .returned (.string ⟨R⟩) ∧ Below w.heap.size w w' := by
  refine (quote_rt T w hr (by omega)).mono fun e w' ⟨he, hb⟩ => ⟨?_, hb⟩
  rw [he, h]
def TkAt (g1 g2 : Nat) (w : World) : Prop := w.cell? ⟨g1, 4, none⟩ = some (.int .i64 2) ∧ w.cell? ⟨g1, 5, none⟩ = some (.string ⟨#[34, 98, 92, 34, 99, 34]⟩) ∧ w.cell? ⟨g1, 8, none⟩ = some (.int .i64 3) ∧ w.cell? ⟨g1, 9, none⟩ = some (.string ⟨#[40, 100, 40, 101, 41, 41]⟩) ∧ w.cell? ⟨g1, 12, none⟩ = some (.int .i64 5) ∧ w.cell? ⟨g1, 13, none⟩ = some (.string ⟨#[91, 102, 92, 93, 93]⟩) ∧ w.cell? ⟨g1, 19, none⟩ = some (.string ⟨#[34, 103]⟩) ∧ w.cell? ⟨g2, 2, none⟩ = some (.int .i64 2) ∧ w.cell? ⟨g2, 3, none⟩ = some (.string ⟨#[34, 98, 92, 34, 99, 34]⟩)
theorem TkAt.later {g1 g2 : Nat} {w w' : World} (h : TkAt g1 g2 w) (hb : Below w.heap.size w w') : TkAt g1 g2 w' := by
  obtain ⟨a2k, a2t, a4k, a4t, a6k, a6t, a9t, b1k, b1t⟩ := h
  exact ⟨cell_later hb a2k, cell_later hb a2t, cell_later hb a4k, cell_later hb a4t, cell_later hb a6k, cell_later hb a6t, cell_later hb a9t, cell_later hb b1k, cell_later hb b1t⟩
set_option maxHeartbeats 8000000 in
set_option maxRecDepth 100000 in
theorem small_any (w : World) (h : Rt w) : Calls Tryz.prog 4 #[] w (Truth w) := by
  have hS := scan_any lit0 w (by decide)
  rw [toks0_eq] at hS
  have hS2 : Calls Tryz.prog 6 #[.string ⟨#[97, 32, 34, 98, 92, 34, 99, 34, 32, 40, 100, 40, 101, 41, 41, 60, 91, 102, 92, 93, 93, 62, 1, 34, 103]⟩] w (ToksIs toks0 w) := hS
  have HS := Lib.hid hS2
  have hBare := fun v w' hM => bare_any v toks0 w' hM (by decide)
  rw [bare0_eq] at hBare
  have HBare := Lib.hid hBare
  have hJoin := fun v w' hM => join_any v bare0 w' hM (by decide) (by decide)
  rw [join0_eq] at hJoin
  have HJoin := Lib.hid hJoin
  have HV1 := Lib.hid (fun w' => val0 2 ⟨#[34, 98, 92, 34, 99, 34]⟩ #[98, 34, 99] w' (by decide) (by decide +kernel))
  have HV2 := Lib.hid (fun w' => val0 3 ⟨#[40, 100, 40, 101, 41, 41]⟩ #[100, 40, 101, 41] w' (by decide) (by decide +kernel))
  have HV3 := Lib.hid (fun w' => val0 5 ⟨#[91, 102, 92, 93, 93]⟩ #[91, 102, 92, 93, 93] w' (by decide) (by decide +kernel))
  have HQ1 := Lib.hid (fun w' hr => quo0 ⟨#[97, 32, 98]⟩ #[97, 32, 98] w' hr (by decide) (by decide +kernel))
  have HQ2 := Lib.hid (fun w' hr => quo0 ⟨#[97, 46, 98]⟩ #[34, 97, 46, 98, 34] w' hr (by decide) (by decide +kernel))
  have HQ3 := Lib.hid (fun w' hr => quo0 ⟨#[]⟩ #[34, 34] w' hr (by decide) (by decide +kernel))
  have HQ4 := Lib.hid (fun w' hr => quo0 ⟨#[32, 97]⟩ #[34, 32, 97, 34] w' hr (by decide) (by decide +kernel))
  have HQ5 := Lib.hid (fun w' hr => quo0 ⟨#[34, 10]⟩ #[34, 92, 34, 92, 10, 34] w' hr (by decide) (by decide +kernel))
  have HR := Lib.hid h
  have tb := Below.refl w.heap.size w
  clear hS hS2 hBare hJoin h
  go_enter Tryz.func4, Tryz.ntmps4
  go_upto_region 3 with (first
    | (go_at_call 6; (with_reducible refine HS.out.mono ?_); rintro e w1 ⟨v1, rfl, hown1, hb1⟩; have tb := tb.trans hb1; have hs1 := ownsE.sees hown1 (Nat.le_refl _); obtain ⟨g1, c1, rfl, hc1, hg1, hcell1⟩ := sees_slice hs1 10 rfl (by decide))
    | (go_at_call 9; (with_reducible refine (HBare.out _ _ hs1).mono ?_); rintro e w2 ⟨v2, rfl, hown2, hb2⟩; have tb := tb.trans (hb2.mono tb.size); have hs2 := ownsE.sees hown2 (Nat.le_refl _); obtain ⟨g2, c2, rfl, hc2, hg2, hcell2⟩ := sees_slice hs2 7 rfl (by decide)))
  have hcell1 := fun j hj => (⟨cell_later hb2 (hcell1 j hj).1, cell_later hb2 (hcell1 j hj).2⟩ : _ ∧ _)
  have a0k : w2.cell? ⟨g1, 0, none⟩ = some (.int .i64 1) := (hcell1 0 (by decide)).1
  have a1k : w2.cell? ⟨g1, 2, none⟩ = some (.int .i64 6) := (hcell1 1 (by decide)).1
  have a2k : w2.cell? ⟨g1, 4, none⟩ = some (.int .i64 2) := (hcell1 2 (by decide)).1
  have a2t : w2.cell? ⟨g1, 5, none⟩ = some (.string ⟨#[34, 98, 92, 34, 99, 34]⟩) := (hcell1 2 (by decide)).2
  have a3k : w2.cell? ⟨g1, 6, none⟩ = some (.int .i64 6) := (hcell1 3 (by decide)).1
  have a4k : w2.cell? ⟨g1, 8, none⟩ = some (.int .i64 3) := (hcell1 4 (by decide)).1
  have a4t : w2.cell? ⟨g1, 9, none⟩ = some (.string ⟨#[40, 100, 40, 101, 41, 41]⟩) := (hcell1 4 (by decide)).2
  have a5k : w2.cell? ⟨g1, 10, none⟩ = some (.int .i64 4) := (hcell1 5 (by decide)).1
  have a6k : w2.cell? ⟨g1, 12, none⟩ = some (.int .i64 5) := (hcell1 6 (by decide)).1
  have a6t : w2.cell? ⟨g1, 13, none⟩ = some (.string ⟨#[91, 102, 92, 93, 93]⟩) := (hcell1 6 (by decide)).2
  have a7t : w2.cell? ⟨g1, 15, none⟩ = some (.string ⟨#[62]⟩) := (hcell1 7 (by decide)).2
  have a8k : w2.cell? ⟨g1, 16, none⟩ = some (.int .i64 7) := (hcell1 8 (by decide)).1
  have a9k : w2.cell? ⟨g1, 18, none⟩ = some (.int .i64 7) := (hcell1 9 (by decide)).1
  have a9t : w2.cell? ⟨g1, 19, none⟩ = some (.string ⟨#[34, 103]⟩) := (hcell1 9 (by decide)).2
  have b1k : w2.cell? ⟨g2, 2, none⟩ = some (.int .i64 2) := (hcell2 1 (by decide)).1
  have b1t : w2.cell? ⟨g2, 3, none⟩ = some (.string ⟨#[34, 98, 92, 34, 99, 34]⟩) := (hcell2 1 (by decide)).2
  have ga2 := Nat.lt_of_lt_of_le hg1 hb2.size
  have gb2 := hg2
  clear hcell1 hcell2 hown1 hown2 hs1 hb1 hb2 hg1 hg2
  go_wp2
  have tb := tb.drew
  have HT : TkAt g1 g2 w2.drew := ⟨a2k, a2t, a4k, a4t, a6k, a6t, a9t, b1k, b1t⟩
  have hs2 : seesE w2.drew w2.drew.heap.size 23 _ bare0 := hs2
  dsimp only [List.append]
  go_region_held3 (fun w => w.cell? ⟨g1, 4, none⟩ = some (.int .i64 2) ∧ w.cell? ⟨g1, 5, none⟩ = some (.string ⟨#[34, 98, 92, 34, 99, 34]⟩) ∧ w.cell? ⟨g1, 8, none⟩ = some (.int .i64 3) ∧ w.cell? ⟨g1, 9, none⟩ = some (.string ⟨#[40, 100, 40, 101, 41, 41]⟩) ∧ w.cell? ⟨g1, 12, none⟩ = some (.int .i64 5) ∧ w.cell? ⟨g1, 13, none⟩ = some (.string ⟨#[91, 102, 92, 93, 93]⟩) ∧ w.cell? ⟨g1, 19, none⟩ = some (.string ⟨#[34, 103]⟩) ∧ w.cell? ⟨g2, 2, none⟩ = some (.int .i64 2) ∧ w.cell? ⟨g2, 3, none⟩ = some (.string ⟨#[34, 98, 92, 34, 99, 34]⟩)) ((refine ⟨?_, ?_, ?_, ?_, ?_, ?_, ?_, ?_, ?_⟩ <;> assumption)) (first
    | (go_at_call 15; (with_reducible refine (HV1.out _).mono ?_); rintro e w3 ⟨rfl, hb3⟩; have HT := HT.later hb3; clear a2k a2t a4k a4t a6k a6t a9t b1k b1t; have hh := HT; obtain ⟨a2k, a2t, a4k, a4t, a6k, a6t, a9t, b1k, b1t⟩ := hh; have tb := tb.trans (hb3.mono tb.size); have hs2 := sees_later hs2 hb3)
    | (go_at_call 15; (with_reducible refine (HV2.out _).mono ?_); rintro e w4 ⟨rfl, hb4⟩; have HT := HT.later hb4; clear a2k a2t a4k a4t a6k a6t a9t b1k b1t; have hh := HT; obtain ⟨a2k, a2t, a4k, a4t, a6k, a6t, a9t, b1k, b1t⟩ := hh; have tb := tb.trans (hb4.mono tb.size); have hs2 := sees_later hs2 hb4)
    | (go_at_call 15; (with_reducible refine (HV3.out _).mono ?_); rintro e w5 ⟨rfl, hb5⟩; have HT := HT.later hb5; clear a2k a2t a4k a4t a6k a6t a9t b1k b1t; have hh := HT; obtain ⟨a2k, a2t, a4k, a4t, a6k, a6t, a9t, b1k, b1t⟩ := hh; have tb := tb.trans (hb5.mono tb.size); have hs2 := sees_later hs2 hb5)
    | (go_at_call 13; (with_reducible refine (HQ1.out _ (HR.out.later tb)).mono ?_); rintro e w6 ⟨rfl, hb6⟩; have HT := HT.later hb6; clear a2k a2t a4k a4t a6k a6t a9t b1k b1t; have hh := HT; obtain ⟨a2k, a2t, a4k, a4t, a6k, a6t, a9t, b1k, b1t⟩ := hh; have tb := tb.trans (hb6.mono tb.size); have hs2 := sees_later hs2 hb6)
    | (go_at_call 13; (with_reducible refine (HQ2.out _ (HR.out.later tb)).mono ?_); rintro e w7 ⟨rfl, hb7⟩; have HT := HT.later hb7; clear a2k a2t a4k a4t a6k a6t a9t b1k b1t; have hh := HT; obtain ⟨a2k, a2t, a4k, a4t, a6k, a6t, a9t, b1k, b1t⟩ := hh; have tb := tb.trans (hb7.mono tb.size); have hs2 := sees_later hs2 hb7)
    | (go_at_call 13; (with_reducible refine (HQ3.out _ (HR.out.later tb)).mono ?_); rintro e w8 ⟨rfl, hb8⟩; have HT := HT.later hb8; clear a2k a2t a4k a4t a6k a6t a9t b1k b1t; have hh := HT; obtain ⟨a2k, a2t, a4k, a4t, a6k, a6t, a9t, b1k, b1t⟩ := hh; have tb := tb.trans (hb8.mono tb.size); have hs2 := sees_later hs2 hb8)
    | (go_at_call 13; (with_reducible refine (HQ4.out _ (HR.out.later tb)).mono ?_); rintro e w9 ⟨rfl, hb9⟩; have HT := HT.later hb9; clear a2k a2t a4k a4t a6k a6t a9t b1k b1t; have hh := HT; obtain ⟨a2k, a2t, a4k, a4t, a6k, a6t, a9t, b1k, b1t⟩ := hh; have tb := tb.trans (hb9.mono tb.size); have hs2 := sees_later hs2 hb9)
    | (go_at_call 13; (with_reducible refine (HQ5.out _ (HR.out.later tb)).mono ?_); rintro e w10 ⟨rfl, hb10⟩; have HT := HT.later hb10; clear a2k a2t a4k a4t a6k a6t a9t b1k b1t; have hh := HT; obtain ⟨a2k, a2t, a4k, a4t, a6k, a6t, a9t, b1k, b1t⟩ := hh; have tb := tb.trans (hb10.mono tb.size); have hs2 := sees_later hs2 hb10)
    | (go_at_call 11; (with_reducible refine (HJoin.out _ _ hs2).mono ?_); rintro e w11 ⟨rfl, hb11⟩; have HT := HT.later hb11; clear a2k a2t a4k a4t a6k a6t a9t b1k b1t; have hh := HT; obtain ⟨a2k, a2t, a4k, a4t, a6k, a6t, a9t, b1k, b1t⟩ := hh; have tb := tb.trans (hb11.mono tb.size)))
  all_goals
    go_wp2
    go_ret
    exact ⟨rfl, tb⟩
end Go.Proofs.YtlhmdooeffmedaaGreatDoor
