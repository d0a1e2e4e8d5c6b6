/- Walks: chapter 11's laws: AddrCanon, the walk. -/
import Derived.Test.YtilccofdphohiaaGreatDoorLawCan
import Derived.Deep.RegionHeld3
import Derived.Deep.DrawnRows
namespace Go.Proofs.YtilccofdphohiaaGreatDoor
open Go.RowKit Pk Ad Tk Fo Su Rp

attribute [local go_sem ↓] Go.wp_at_zero Go.wp_at_succ
theorem m_undef : Go.yielded.match_1 (motive := fun _ => Option Bool) (some undef) (fun b => some b) (fun _ => none) = none := rfl
attribute [local go_sem] m_undef
theorem own_shapeH {w : World} {B : Nat} {e : TypeId} {v : Value} {xs : List AdB} (h : ownsG adLay w B e v xs) : ∃ p c, v = .slice p xs.length c ∧ xs.length ≤ c := by
  rcases h.2 with ⟨h1, h2⟩ | ⟨g, cap, cur, h1, h2, h3, h4, h5, h6, h7⟩
  · exact ⟨none, 0, by rw [h1, h2], by omega⟩
  · exact ⟨_, cap, h1, h4⟩
theorem viaA {w w' : World} {o : Obj} (hb : Below (w.alloc o).heap.size (w.alloc o) w') : Below w.heap.size w w' := (one_alloc w o).trans (hb.mono (one_alloc w o).size)
theorem head_is {C lo : ByteArray} {X : List UInt8} (h : C.data.toList = lo.data.toList ++ 64 :: X) : C.extract 0 lo.size = lo := by
  refine (mk_of (B := C.extract 0 lo.size) (l := lo.data.toList) ?_).symm.trans (mk_of rfl)
  rw [ByteArray.data_extract, Array.toList_extract, h, List.extract_eq_take_drop, List.drop_zero, Nat.sub_zero]
  exact List.take_left' rfl
theorem tail_is {C lo : ByteArray} {X : List UInt8} (h : C.data.toList = lo.data.toList ++ 64 :: X) : (C.extract (lo.size + 1) C.size).data.toList = X := by
  have hz : C.data.toList.length = lo.size + 1 + X.length := by rw [h, List.length_append, List.length_cons, dataL]; omega
  have hz2 : C.size = lo.size + 1 + X.length := by rw [← hz, dataL]
  rw [ByteArray.data_extract, Array.toList_extract, h, List.extract_eq_take_drop]
  have e : lo.data.toList ++ 64 :: X = (lo.data.toList ++ [64]) ++ X := by simp
  rw [e, List.drop_left' (by rw [List.length_append, dataL]; rfl)]
  exact List.take_of_length_le (by omega)
/-- the three texts of an address in block g -/
def C3 (g : Nat) (x y z : ByteArray) (W : World) : Prop := W.cell? ⟨g, 0, none⟩ = some (.string x) ∧ W.cell? ⟨g, 1, none⟩ = some (.string y) ∧ W.cell? ⟨g, 2, none⟩ = some (.string z)
theorem C3.later {g : Nat} {x y z : ByteArray} {w w' : World} (h : C3 g x y z w) (hb : Below w.heap.size w w') : C3 g x y z w' := ⟨laterW hb h.1, laterW hb h.2.1, laterW hb h.2.2⟩
theorem C3.of {g : Nat} {x y z : ByteArray} {w : World} (h : w.heap[g]? = some (.cells #[.string x, .string y, .string z] 34 (0, 0))) : C3 g x y z w := ⟨Lib.cell_of_heap h 0, Lib.cell_of_heap h 1, Lib.cell_of_heap h 2⟩
theorem one_slice {w : World} {v : Value} {x y z : ByteArray} (h : ∃ B, ownsG adLay w B 34 v [⟨x, y, z⟩]) : ∃ g c, v = .slice (some ⟨g, 0, none⟩) 1 c ∧ C3 g x y z w := by
  obtain ⟨B, h⟩ := h
  obtain ⟨p, c, rfl, hc, hh⟩ := adForm (h.sees (Nat.le_refl _))
  rcases hh with hh | ⟨g, rfl, hh⟩
  · cases hh
  · obtain ⟨a0, a1, a2⟩ := hh 0 (by show 0 < 1; decide)
    exact ⟨g, c, rfl, a0, a1, a2⟩
set_option maxHeartbeats 4000000 in
set_option maxRecDepth 100000 in
theorem canon_of (nm lo dm : ByteArray) (n : Int) (w : World) (h : Ra w) : Calls Tryz.prog 9 #[.agg #[.string nm, .string lo, .string dm], .int .i64 n] w (Truth w) := by
  have HS := Lib.hid (small_any (w.alloc (.cells #[.string nm, .string lo, .string dm] 34)) (h.later (one_alloc _ _)))
  have HR := Lib.hid h
  have hF := fun v W (hv : AdSees W v [⟨nm, lo, dm⟩]) => few_any v [⟨nm, lo, dm⟩] W hv (by simp)
  have tb := one_alloc w (.cells #[.string nm, .string lo, .string dm] 34)
  have kk := heap_alloc_new w (.cells #[.string nm, .string lo, .string dm] 34)
  have y0 := Lib.cell_of_heap kk 0
  have y1 := Lib.cell_of_heap kk 1
  have y2 := Lib.cell_of_heap kk 2
  clear h
  cases hfe : fewA [⟨nm, lo, dm⟩] with
  | false =>
    rw [hfe] at hF
    have HF := Lib.hid hF
    clear hF hfe
    go_enter Tryz.func9, Tryz.ntmps9
    go_wp2_with (first
      | (go_at_call 10; (with_reducible refine HS.out.mono ?_); rintro e w1 ⟨rfl, hb1⟩; have tb := tb.trans (hb1.mono tb.size); have kk := blkKept hb1 kk; have y0 := Lib.cell_of_heap kk 0; have y1 := Lib.cell_of_heap kk 1; have y2 := Lib.cell_of_heap kk 2)
      | (go_at_call 17; go_loud ((with_reducible refine (HF.out _ _ ?_).mono ?_); (exact litA_sees _ [⟨nm, lo, dm⟩] _ _ _ _ rfl rfl _ rfl (by decide)); rintro e w2 ⟨rfl, hb2⟩; have hb2 := viaA hb2; have tb := tb.trans (hb2.mono tb.size))))
    go_ret
    exact ⟨rfl, tb⟩
  | true =>
    obtain ⟨-, hz⟩ := few_size hfe
    obtain ⟨n1, n2, n3⟩ := hz _ (List.mem_singleton.2 rfl)
    have n1 : nm.size ≤ 300 := n1
    have n2 : lo.size ≤ 300 := n2
    have n3 : dm.size ≤ 300 := n3
    rw [hfe] at hF
    have HF := Lib.hid hF
    clear hF hfe hz
    go_enter Tryz.func9, Tryz.ntmps9
    go_upto_region 5 with (first
      | (go_at_call 10; (with_reducible refine HS.out.mono ?_); rintro e w1 ⟨rfl, hb1⟩; have tb := tb.trans (hb1.mono tb.size); have kk := blkKept hb1 kk; have y0 := Lib.cell_of_heap kk 0; have y1 := Lib.cell_of_heap kk 1; have y2 := Lib.cell_of_heap kk 2)
      | (go_at_call 17; go_loud ((with_reducible refine (HF.out _ _ ?_).mono ?_); (exact litA_sees _ [⟨nm, lo, dm⟩] _ _ _ _ rfl rfl _ rfl (by decide)); rintro e w2 ⟨rfl, hb2⟩; have hb2 := viaA hb2; have tb := tb.trans (hb2.mono tb.size); have kk := blkKept hb2 kk; have y0 := Lib.cell_of_heap kk 0; have y1 := Lib.cell_of_heap kk 1; have y2 := Lib.cell_of_heap kk 2)))
    obtain ⟨cp, w3, hcv, hrow, hb3, hz3⟩ := conv_row (P := Tryz.prog) w2 9 45 5 dm Tryz.underlying9 Tryz.underlying45 Tryz.underlying5
    obtain ⟨g, hg⟩ : ∃ g, g = w2.heap.size := ⟨_, rfl⟩
    rw [← hg] at hcv hrow hb3 hz3
    have hgb : w.heap.size < g := by rw [hg]; exact lt_of_block kk
    have HG := Lib.hid hg
    have hst : Hid (UpIs dm [] 0) := up_start dm
    have hrow : rowF w3 g 5 ([] ++ tl dm 0) := by rw [tl_zero]; exact hrow
    clear hg hb2 hb1
    go_wp2
    go_loopw [8] (fun iv wr => ∃ (k : Nat) (acc : List UInt8), iv = .int .i64 k ∧ k ≤ dm.size ∧ rowF wr g 5 (acc ++ tl dm k) ∧ Below g w2 wr ∧ Hid (UpIs dm acc k)) (fun iv _ => dm.size - (intOf iv).toNat)
    case atStart => exact ⟨0, [], by first | rfl | trivial, by omega, hrow, hb3, hst⟩
    case round =>
      clear hrow hcv hb3 hz3 hst
      obtain ⟨k, acc, rfl, hk, hrow, hbel, hrel⟩ := hrel
      by_cases hlt : k < dm.size
      · have hl : acc.length = k := hrel.out.1
        have hc := midA_cell hrow hl hlt
        have hf := rowF_frozen hrow k (by rw [midA_len hl (by omega)]; exact hlt)
        have hnx := fun y hy => up_step hrel.out hlt y hy
        have hkeep := hrow
        rw [midA_keep (acc := acc) hlt] at hkeep
        have hsame := Lib.hid (hnx dm[k] rfl)
        have z0 : (0 : Int) ≤ (k : Int) := by omega
        have z1 : (k : Int) < (dm.size : Int) := by omega
        generalize dm[k] = c at *
        have hcb := c.toNat_lt
        have hbe : bitF n k = (bits BinOp.and IntKind.i64 (n / 2 ^ (k % 60)) 1 == 1) := rfl
        by_cases a1 : 97 ≤ c.toNat
        · by_cases a2 : c.toNat ≤ 122
          · cases hbit : bitF n k with
            | true =>
              rw [hbit] at hbe
              replace hbe := hbe.symm
              have hrow2 := rowF_stored hrow k ((c.toNat : Int) - 32) (by omega) (by omega)
              rw [midA_set hl hlt] at hrow2
              have hd := Lib.hid (hnx _ (low_up c a1 a2))
              have hbel2 : Below g w2 (wr.setCell ⟨g, k, none⟩ (.int .u8 ((c.toNat : Int) - 32))) := hbel.setCell (Nat.le_refl _) _
              clear hrow hrel hl hkeep hnx hsame hbit
              go_wp2
              go_roundw
              case rel => exact ⟨k + 1, _, by go_num, by omega, hrow2, hbel2, hd⟩
              case measure => simp [intOf]; omega
            | false =>
              rw [hbit] at hbe
              replace hbe := hbe.symm
              clear hrow hrel hl hnx hbit
              go_wp2
              go_roundw
              case rel => exact ⟨k + 1, _, by go_num, by omega, hkeep, hbel, hsame⟩
              case measure => simp [intOf]; omega
          · clear hrow hrel hl hnx hbe
            go_wp2
            go_roundw
            case rel => exact ⟨k + 1, _, by go_num, by omega, hkeep, hbel, hsame⟩
            case measure => simp [intOf]; omega
        · clear hrow hrel hl hnx hbe
          go_wp2
          go_roundw
          case rel => exact ⟨k + 1, _, by go_num, by omega, hkeep, hbel, hsame⟩
          case measure => simp [intOf]; omega
      · obtain rfl : k = dm.size := by omega
        have hl : (acc ++ tl dm dm.size).length = dm.size := by rw [List.length_append, tl_length, hrel.out.1]; omega
        have hcv2 := run_string_row (P := Tryz.prog) (ts := 9) (n := dm.size) (cap := cp) bslA Tryz.underlying9 hrow hl
        rw [tl_end dm dm.size (Nat.le_refl _), List.append_nil] at hcv2
        have hup := up_end hrel.out (Nat.lt_irrefl _)
        have hal := hrel.out.1
        obtain ⟨S, hS1, hS2, hS3⟩ := arrE acc
        rw [← hS1] at hcv2
        rw [← hS2] at hup
        have hSz : S.size = dm.size := by omega
        have hCa := fun W => canon_any nm lo dm W (by omega) (by omega)
        have hCb := fun W => canon_any ⟨#[120]⟩ lo S W (by omega) (by omega)
        rw [hup] at hCb
        obtain ⟨C, hC1, hC2, hC3⟩ := arrE (lo.data.toList ++ 64 :: dm.data.toList.map lowA)
        unfold StrIs at hCa hCb
        rw [← hC1] at hCa hCb
        have hCz : C.size = lo.size + 1 + dm.size := by rw [hC3, List.length_append, List.length_cons, List.length_map, dataL, dataL]; omega
        have hCl : C.extract 0 lo.size = lo := by
          exact head_is hC2
        obtain ⟨D, hD⟩ : ∃ D, D = C.extract (lo.size + 1) C.size := ⟨_, rfl⟩
        have hDl : D.data.toList = dm.data.toList.map lowA := by
          rw [hD]
          exact tail_is hC2
        have kk := (hbel.block _ hgb).trans kk
        have tb := tb.trans (hbel.mono (Nat.le_of_lt hgb))
        have y0 := Lib.cell_of_heap kk 0
        have y1 := Lib.cell_of_heap kk 1
        have y2 := Lib.cell_of_heap kk 2
        have HCe := Lib.hid hC1
        have HCa := Lib.hid hCa
        have HCb := Lib.hid hCb
        have HDl := Lib.hid hDl
        have HD := Lib.hid hD
        clear hCa hCb hDl hD hrow hrel hbel hl hal hup hS1 hS2 hS3 hC1 hC2 hC3
        have kkB : (wr.alloc (.cells #[.string ⟨#[120]⟩, .string lo, .string S] 34)).heap[w.heap.size]? = _ := row_alloc _ kk
        have z0 := Lib.cell_of_heap kkB 0
        have z1 := Lib.cell_of_heap kkB 1
        have z2 := Lib.cell_of_heap kkB 2
        go_upto_region 13 with (go_at_call 20; go_loud ((with_reducible refine (HCa.out _).mono ?_); rintro e w4 ⟨rfl, hb4⟩))
        have HA : C3 w.heap.size nm lo dm w4 := (C3.of kkB).later hb4
        have HB : C3 wr.heap.size ⟨#[120]⟩ lo S w4 := (C3.of (heap_alloc_new wr _)).later hb4
        have tb := tb.trans ((viaA hb4).mono tb.size)
        clear y0 y1 y2 z0 z1 z2 kk kkB hb4
        generalize wr.heap.size = gb at *
        have e1 : ((C.size : Int) != (lo.size : Int) + 1 + (dm.size : Int)) = false := by rw [bne_eq_false_iff_eq]; omega
        have u1 : IntKind.i64.wrap ((lo.size : Int) + 1) = (lo.size : Int) + 1 := by rw [IntKind.wrap_i64]; omega
        have u2 : IntKind.i64.wrap ((lo.size : Int) + 1 + (dm.size : Int)) = (lo.size : Int) + 1 + (dm.size : Int) := by rw [IntKind.wrap_i64]; omega
        have hDx : C.extract (lo.size + 1) C.size = D := HD.out.symm
        have b0 : (0 : Int) ≤ (lo.size : Int) := by omega
        have b1 : (lo.size : Int) ≤ (C.size : Int) := by omega
        have b2 : (0 : Int) ≤ (lo.size : Int) + 1 := by omega
        have b3 : (lo.size : Int) + 1 ≤ (C.size : Int) := by omega
        have b4 : ((lo.size : Int) + 1).toNat = lo.size + 1 := by omega
        obtain ⟨x0, x1, x2⟩ := HA
        obtain ⟨v0, v1, v2⟩ := HB
        have HA : C3 w.heap.size nm lo dm w4 := ⟨x0, x1, x2⟩
        have HB : C3 gb ⟨#[120]⟩ lo S w4 := ⟨v0, v1, v2⟩
        clear hSz hCz
        go_region_held3 (fun W => W.cell? ⟨w.heap.size, 0, none⟩ = some (.string nm) ∧ W.cell? ⟨w.heap.size, 1, none⟩ = some (.string lo) ∧ W.cell? ⟨w.heap.size, 2, none⟩ = some (.string dm) ∧ W.cell? ⟨gb, 0, none⟩ = some (.string ⟨#[120]⟩) ∧ W.cell? ⟨gb, 1, none⟩ = some (.string lo) ∧ W.cell? ⟨gb, 2, none⟩ = some (.string S)) (first | exact ⟨HA.1, HA.2.1, HA.2.2, HB.1, HB.2.1, HB.2.2⟩) (first
          | (go_at_call 20; (with_reducible refine (HCb.out _).mono ?_); rintro e w5 ⟨rfl, hb5⟩; have hbA : Below w4.heap.size w4 w5 := (by first | exact hb5 | exact ((Below.refl _ w4).drew).trans hb5); have HA := HA.later hbA; have HB := HB.later hbA; have tb := tb.trans (hbA.mono tb.size)))
        go_wp2_with fail
        obtain ⟨x3, x4, x5⟩ := HA
        have HA : C3 w.heap.size nm lo dm w5 := ⟨x3, x4, x5⟩
        go_region_held3 (fun W => W.cell? ⟨w.heap.size, 0, none⟩ = some (.string nm) ∧ W.cell? ⟨w.heap.size, 1, none⟩ = some (.string lo) ∧ W.cell? ⟨w.heap.size, 2, none⟩ = some (.string dm)) (first | exact HA | exact HA.later (one_allocD _ _) | exact HA.later (one_alloc _ _)) (fail)
        have hb6 := one_allocD w5 (.cells #[.string ⟨#[]⟩, .string lo, .string D] 34)
        have HA := HA.later hb6
        have HL : C3 w5.heap.size ⟨#[]⟩ lo D (w5.alloc (.cells #[.string ⟨#[]⟩, .string lo, .string D] 34)).drew := C3.of (w := w5.alloc _) (heap_alloc_new w5 _)
        have tb := tb.trans (hb6.mono tb.size)
        clear hb6 x0 x1 x2 x3 x4 x5 v0 v1 v2 HB e1 u1 u2 b0 b1 b2 b3 b4 hDx hCl
        generalize (w5.alloc (.cells #[.string ⟨#[]⟩, .string lo, .string D] 34)).drew = w6 at *
        generalize w5.heap.size = gl at *
        obtain ⟨x0, x1, x2⟩ := HA
        obtain ⟨v0, v1, v2⟩ := HL
        have HA : C3 w.heap.size nm lo dm w6 := ⟨x0, x1, x2⟩
        have HL : C3 gl ⟨#[]⟩ lo D w6 := ⟨v0, v1, v2⟩
        have hDz : D.size ≤ 300 := by
          have := congrArg List.length HDl.out
          rw [List.length_map, dataL, dataL] at this
          omega
        have hW := fun v W hr hv => write_ra v [⟨⟨#[]⟩, lo, D⟩] W hr hv (show 1 ≤ 20 by decide) (fun a ha => by rw [List.mem_singleton.1 ha]; exact ⟨show 0 ≤ 300 by decide, n2, hDz⟩)
        have hws := lst_len (ys := [⟨⟨#[]⟩, lo, D⟩]) (show 1 ≤ 20 by decide) (fun a ha => by rw [List.mem_singleton.1 ha]; exact ⟨show 0 ≤ 300 by decide, n2, hDz⟩)
        have hCl := fun W => canon_any ⟨#[]⟩ lo D W (by omega) (by omega)
        unfold StrIs at hCl
        rw [HDl.out, lows_low, ← HCe.out] at hCl
        have hRt := fun W hr => right_ra nm lo dm W hr n1 n2 n3
        have hback : rightA ⟨nm.data.toList, lo.data.toList, dm.data.toList⟩ = true → parseA (writeLst [(⟨⟨#[]⟩, lo, D⟩ : AdB).lst]) = ([(⟨⟨#[]⟩, lo, D⟩ : AdB).lst], true) := fun hr => back_adr _ (fun a ha => by
          rw [List.mem_singleton.1 ha]
          have := right_low hr
          rw [← HDl.out] at this
          exact this)
        obtain ⟨WS, hW1, hW2, hW3⟩ := arrE (writeLst ([(⟨⟨#[]⟩, lo, D⟩ : AdB)].map AdB.lst))
        rw [← hW1] at hW
        rw [← hW3] at hws
        have HW := Lib.hid hW
        have HCl := Lib.hid hCl
        cases hr : rightA ⟨nm.data.toList, lo.data.toList, dm.data.toList⟩ with
        | false =>
          rw [hr] at hRt
          have HP := Lib.hid (fun W => parse_prs WS W (by omega))
          have HRt := Lib.hid hRt
          clear hW hCl hRt hback hr hW1 hW2 hW3 hws
          generalize adrsL WS.data.toList = yl at *
          generalize (parseA WS.data.toList).2 = pl at *
          go_upto_region 17 with (first
            | (go_at_call 22; go_loud ((with_reducible refine (HW.out _ _ (HR.out.later (tb.trans ((one_alloc _ _).mono tb.size))) ?_).mono ?_); (exact litA_sees _ [⟨⟨#[]⟩, lo, D⟩] _ _ _ _ rfl rfl _ rfl (by decide)); rintro e w7 ⟨rfl, hb7⟩; have hb7 := viaA hb7; have HA := HA.later hb7; have HL := HL.later hb7; have tb := tb.trans (hb7.mono tb.size)))
            | (go_at_call 11; go_loud ((with_reducible refine (HP.out _).mono ?_); rintro e w8 ⟨v8, rfl, ⟨B8, ho8⟩, -, hb8⟩; obtain ⟨p8, c8, rfl, hc8⟩ := own_shapeH ho8; have HA := HA.later hb8; have HL := HL.later hb8; have tb := tb.trans (hb8.mono tb.size))))
          clear x0 x1 x2 v0 v1 v2
          obtain ⟨x0, x1, x2⟩ := HA
          obtain ⟨v0, v1, v2⟩ := HL
          have HA : C3 w.heap.size nm lo dm w8 := ⟨x0, x1, x2⟩
          have HL : C3 gl ⟨#[]⟩ lo D w8 := ⟨v0, v1, v2⟩
          first | (go_region_with (first
            | (go_at_call 20; (with_reducible refine (HCl.out _).mono ?_); rintro e w9 ⟨rfl, hb9⟩; have hbA : Below w8.heap.size w8 w9 := (by first | exact hb9 | exact ((Below.refl _ w8).drew).trans hb9); have HA := HA.later hbA; have HL := HL.later hbA; have tb := tb.trans (hbA.mono tb.size); clear x0 x1 x2 v0 v1 v2; have hh1 := HA; have hh2 := HL; obtain ⟨x0, x1, x2⟩ := hh1; obtain ⟨v0, v1, v2⟩ := hh2)
            | (go_at_call 18; (with_reducible refine (HRt.out _ (HR.out.later tb)).mono ?_); rintro e w10 ⟨rfl, hb10⟩; have HA := HA.later hb10; have HL := HL.later hb10; have tb := tb.trans (hb10.mono tb.size); clear x0 x1 x2 v0 v1 v2; have hh1 := HA; have hh2 := HL; obtain ⟨x0, x1, x2⟩ := hh1; obtain ⟨v0, v1, v2⟩ := hh2))) | fail
          all_goals go_wp2
          all_goals go_ret
          all_goals exact ⟨rfl, tb⟩
        | true =>
          have hb := hback hr
          rw [hr] at hRt
          have hP := fun W => (parse_any WS W (by omega)).mono fun _ _ h => pars_to (xs := [⟨⟨#[]⟩, lo, D⟩]) (b := true) h (by rw [hW2]; exact hb)
          have HP := Lib.hid hP
          have HRt := Lib.hid hRt
          clear hW hCl hRt hback hr hW1 hW2 hW3 hws hb hP
          go_upto_region 17 with (first
            | (go_at_call 22; go_loud ((with_reducible refine (HW.out _ _ (HR.out.later (tb.trans ((one_alloc _ _).mono tb.size))) ?_).mono ?_); (exact litA_sees _ [⟨⟨#[]⟩, lo, D⟩] _ _ _ _ rfl rfl _ rfl (by decide)); rintro e w7 ⟨rfl, hb7⟩; have hb7 := viaA hb7; have HA := HA.later hb7; have HL := HL.later hb7; have tb := tb.trans (hb7.mono tb.size)))
            | (go_at_call 11; go_loud ((with_reducible refine (HP.out _).mono ?_); rintro e w8 ⟨v8, rfl, ho8, -, hb8⟩; have HA := HA.later hb8; have HL := HL.later hb8; have tb := tb.trans (hb8.mono tb.size); obtain ⟨g8, c8, rfl, HO⟩ := one_slice ho8)))
          clear x0 x1 x2 v0 v1 v2
          obtain ⟨x0, x1, x2⟩ := HA
          obtain ⟨v0, v1, v2⟩ := HL
          obtain ⟨o0, o1, o2⟩ := HO
          have HA : C3 w.heap.size nm lo dm w8 := ⟨x0, x1, x2⟩
          have HL : C3 gl ⟨#[]⟩ lo D w8 := ⟨v0, v1, v2⟩
          have HO : C3 g8 ⟨#[]⟩ lo D w8 := ⟨o0, o1, o2⟩
          first | go_region_held3 (fun W => W.cell? ⟨w.heap.size, 0, none⟩ = some (.string nm) ∧ W.cell? ⟨w.heap.size, 1, none⟩ = some (.string lo) ∧ W.cell? ⟨w.heap.size, 2, none⟩ = some (.string dm) ∧ W.cell? ⟨gl, 0, none⟩ = some (.string ⟨#[]⟩) ∧ W.cell? ⟨gl, 1, none⟩ = some (.string lo) ∧ W.cell? ⟨gl, 2, none⟩ = some (.string D) ∧ W.cell? ⟨g8, 0, none⟩ = some (.string ⟨#[]⟩) ∧ W.cell? ⟨g8, 1, none⟩ = some (.string lo) ∧ W.cell? ⟨g8, 2, none⟩ = some (.string D)) (first | exact ⟨HA.1, HA.2.1, HA.2.2, HL.1, HL.2.1, HL.2.2, HO.1, HO.2.1, HO.2.2⟩) (first
            | (go_at_call 20; (with_reducible refine (HCl.out _).mono ?_); rintro e w9 ⟨rfl, hb9⟩; have hbA : Below w8.heap.size w8 w9 := (by first | exact hb9 | exact ((Below.refl _ w8).drew).trans hb9); have HA := HA.later hbA; have HL := HL.later hbA; have HO := HO.later hbA; have tb := tb.trans (hbA.mono tb.size))
            | (go_at_call 18; (with_reducible refine (HRt.out _ (HR.out.later tb)).mono ?_); rintro e w10 ⟨rfl, hb10⟩; have HA := HA.later hb10; have HL := HL.later hb10; have HO := HO.later hb10; have tb := tb.trans (hb10.mono tb.size)))
          all_goals go_wp2
          all_goals go_ret
          all_goals exact ⟨rfl, tb⟩
end Go.Proofs.YtilccofdphohiaaGreatDoor
