/- Walks: chapter 11's laws: AddrWrites. -/
import Derived.Test.YtilccofdphohiaaGreatDoorRA
import Derived.Deep.RegionHeld3
import Derived.Deep.DrawnRows
namespace Go.Proofs.YtilccofdphohiaaGreatDoor
open Go.RowKit Pk Ad Tk Fo Su U8

attribute [local go_sem ↓] Go.wp_at_zero Go.wp_at_succ
/-- the three texts of an address at offset o of block g -/
def C3o (g o : Nat) (x y z : ByteArray) (W : World) : Prop := W.cell? ⟨g, o, none⟩ = some (.string x) ∧ W.cell? ⟨g, o + 1, none⟩ = some (.string y) ∧ W.cell? ⟨g, o + 2, none⟩ = some (.string z)
theorem C3o.later {g o : Nat} {x y z : ByteArray} {w w' : World} (h : C3o g o x y z w) (hb : Below w.heap.size w w') : C3o g o x y z w' := ⟨laterW hb h.1, laterW hb h.2.1, laterW hb h.2.2⟩
set_option maxHeartbeats 4000000 in
set_option maxRecDepth 100000 in
theorem writes_of (v : Value) (ys : List AdB) (w : World) (h : Ra w) (hv : AdSees w v ys) (hl : ys.length ≤ 9223372036854775807) : Calls Tryz.prog 4 #[v] w (Truth w) := by
  have HS := Lib.hid (small_any w h)
  have HR := Lib.hid h
  have HV := Lib.hid hv
  have hF := fun w' (hb : Below w.heap.size w w') => few_any v ys w' (hv.later hb) hl
  clear h
  obtain ⟨p, c, rfl, hc, hcs⟩ := hv
  have HC := Lib.hid hcs
  have tb := Below.refl w.heap.size w
  clear hcs
  cases hfe : fewA ys with
  | false =>
    rw [hfe] at hF
    have HF := Lib.hid hF
    clear hF hfe
    go_enter Tryz.func4, Tryz.ntmps4
    go_wp2_with (first
      | (go_at_call 10; (with_reducible refine HS.out.mono ?_); rintro e w1 ⟨rfl, hb1⟩; have tb := tb.trans hb1)
      | (go_at_call 17; (with_reducible refine (HF.out _ tb).mono ?_); rintro e w2 ⟨rfl, hb2⟩; have tb := tb.trans (hb2.mono tb.size)))
    go_ret
    exact ⟨rfl, tb⟩
  | true =>
    obtain ⟨hn, hz⟩ := few_size hfe
    rw [hfe] at hF
    have HF := Lib.hid hF
    have HZ := Lib.hid hz
    clear hF hfe hz
    go_enter Tryz.func4, Tryz.ntmps4
    go_wp2_with (first
      | (go_at_call 10; (with_reducible refine HS.out.mono ?_); rintro e w1 ⟨rfl, hb1⟩; have tb := tb.trans hb1)
      | (go_at_call 17; (with_reducible refine (HF.out _ tb).mono ?_); rintro e w2 ⟨rfl, hb2⟩; have tb := tb.trans (hb2.mono tb.size)))
    go_loopg [5] ys.length (fun g iv wr => ∃ k : Nat, k + g = ys.length ∧ iv = .int .i64 k ∧ Below w.heap.size w wr)
    case atStart => exact ⟨0, by omega, by first | rfl | trivial, tb⟩
    case round =>
      clear tb
      obtain ⟨k, hkg, rfl, tb⟩ := hrel
      by_cases hlt : k < ys.length
      · obtain ⟨gg, o, rfl, hcell⟩ : ∃ g o, p = some ⟨g, o, none⟩ ∧ ∀ j (hj : j < ys.length), w.cell? ⟨g, o + j * 3, none⟩ = some (.string ys[j].name) ∧ w.cell? ⟨g, o + j * 3 + 1, none⟩ = some (.string ys[j].loc) ∧ w.cell? ⟨g, o + j * 3 + 2, none⟩ = some (.string ys[j].dom) := by
          rcases HC.out with h | h
          · rw [h] at hlt; simp at hlt
          · exact h
        obtain ⟨c0, c1, c2⟩ := hcell k hlt
        have c0 := laterW (tb.mono (Nat.le_refl _)) c0
        have c1 := laterW (tb.mono (Nat.le_refl _)) c1
        have c2 := laterW (tb.mono (Nat.le_refl _)) c2
        obtain ⟨n1, n2, n3⟩ := HZ.out ys[k] (List.getElem_mem hlt)
        have z0 : (0 : Int) ≤ (k : Int) := by omega
        have z1 : (k : Int) < (ys.length : Int) := by omega
        generalize ys[k] = a at *
        obtain ⟨nm, lo, dm⟩ := a
        have c0 : wr.cell? ⟨gg, o + k * 3, none⟩ = some (.string nm) := c0
        have c1 : wr.cell? ⟨gg, o + k * 3 + 1, none⟩ = some (.string lo) := c1
        have c2 : wr.cell? ⟨gg, o + k * 3 + 2, none⟩ = some (.string dm) := c2
        have n1 : nm.size ≤ 300 := n1
        have n2 : lo.size ≤ 300 := n2
        have n3 : dm.size ≤ 300 := n3
        have hRt := fun W hr => right_ra nm lo dm W hr n1 n2 n3
        have hRr := fun W => rright_any nm lo dm W (by omega) (by omega) (by omega)
        generalize rightA ⟨nm.data.toList, lo.data.toList, dm.data.toList⟩ = rr at *
        have hCa := fun W => canon_any nm lo dm W (by omega) (by omega)
        have hCr := fun W => rcanon_any nm lo dm W (by omega) (by omega)
        obtain ⟨C, hC1, -, -⟩ := arrE (lo.data.toList ++ 64 :: dm.data.toList.map lowA)
        unfold StrIs at hCa hCr
        rw [← hC1] at hCa hCr
        have HRt := Lib.hid hRt
        have HRr := Lib.hid hRr
        have HCa := Lib.hid hCa
        have HCr := Lib.hid hCr
        have HA : C3o gg (o + k * 3) nm lo dm wr := ⟨c0, c1, c2⟩
        clear hcell hRt hRr hCa hCr hC1 n1 n2 n3
        go_wp2_with fail
        go_region_held3 (fun W => W.cell? ⟨gg, o + k * 3, none⟩ = some (.string nm) ∧ W.cell? ⟨gg, o + k * 3 + 1, none⟩ = some (.string lo) ∧ W.cell? ⟨gg, o + k * 3 + 2, none⟩ = some (.string dm)) (first | exact HA) (first
          | (go_at_call 18; (with_reducible refine (HRt.out _ (by first | exact HR.out.later tb | exact HR.out.later tb.drew)).mono ?_); rintro e w3 ⟨rfl, hb3⟩; have hbA : Below wr.heap.size wr w3 := (by first | exact hb3 | exact ((Below.refl _ wr).drew).trans hb3); have HA := HA.later hbA; have tb := tb.trans (hbA.mono tb.size))
          | (go_at_call 19; (with_reducible refine (HRr.out _).mono ?_); rintro e w4 ⟨rfl, hb4⟩; have HA := HA.later hb4; have tb := tb.trans (hb4.mono tb.size))
          | (go_at_call 20; (with_reducible refine (HCa.out _).mono ?_); rintro e w5 ⟨rfl, hb5⟩; have HA := HA.later hb5; have tb := tb.trans (hb5.mono tb.size))
          | (go_at_call 21; (with_reducible refine (HCr.out _).mono ?_); rintro e w6 ⟨rfl, hb6⟩; have HA := HA.later hb6; have tb := tb.trans (hb6.mono tb.size)))
        all_goals go_wp2
        all_goals go_roundg (ys.length - (k + 1))
        all_goals first | omega | exact ⟨k + 1, by omega, by go_num, tb⟩
      · have hW := fun W hr hs => write_ra (.slice p ys.length c) ys W hr hs hn HZ.out
        have hWr := fun W hs => rwrite_any (.slice p ys.length c) ys W hs hn HZ.out
        obtain ⟨S, hS1, -, -⟩ := arrE (writeLst (ys.map AdB.lst))
        unfold StrIs at hWr
        rw [← hS1] at hW hWr
        have HW := Lib.hid hW
        have HWr := Lib.hid hWr
        clear hW hWr hS1
        go_wp2_with (first
          | (go_at_call 22; (with_reducible refine (HW.out _ (HR.out.later tb) (HV.out.later tb)).mono ?_); rintro e w3 ⟨rfl, hb3⟩; have tb := tb.trans (hb3.mono tb.size))
          | (go_at_call 23; (with_reducible refine (HWr.out _ (HV.out.later tb)).mono ?_); rintro e w4 ⟨rfl, hb4⟩; have tb := tb.trans (hb4.mono tb.size)))
        go_ret
        exact ⟨by first | rfl | (simp; done), tb⟩
end Go.Proofs.YtilccofdphohiaaGreatDoor
