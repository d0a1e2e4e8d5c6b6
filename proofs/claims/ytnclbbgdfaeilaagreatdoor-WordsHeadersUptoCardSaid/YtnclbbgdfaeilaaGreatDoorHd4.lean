/- Walks: header: Put. -/
import Derived.Test.YtnclbbgdfaeilaaGreatDoorRepNM
namespace Go.Proofs.YtnclbbgdfaeilaaGreatDoor
open Go.RowKit Pk Hd

/-- k bytes of the piece are known -/
def PieceAt (V : ByteArray) (k : Nat) : Prop := ∃ h : k - 1 < V.size, 1 ≤ k ∧ k + pieceF (V[k - 1]'h) (tl V k) = pieceN V.data.toList
theorem piece_start {V : ByteArray} (h : 0 < V.size) : PieceAt V 1 := ⟨h, Nat.le_refl _, by
  rw [data_cons V h]; show 1 + pieceF V[0] (tl V 1) = pieceF V[0] (tl V 1) + 1; omega⟩
theorem piece_step {V : ByteArray} {k : Nat} (h : PieceAt V k) (hk : k < V.size) : ∃ hp : k - 1 < V.size, ((blk V[k] = true ∧ blk (V[k - 1]'hp) = false) → k = pieceN V.data.toList) ∧ (¬ (blk V[k] = true ∧ blk (V[k - 1]'hp) = false) → PieceAt V (k + 1)) := by
  obtain ⟨hp, h1, h2⟩ := h
  refine ⟨hp, fun hc => ?_, fun hc => ?_⟩
  · rw [tl_cons V k hk] at h2
    unfold pieceF at h2
    rw [if_pos (by rw [hc.1, hc.2]; rfl)] at h2
    exact h2
  · rw [tl_cons V k hk] at h2
    unfold pieceF at h2
    rw [if_neg (fun e => hc (by rw [Bool.and_eq_true] at e; exact ⟨e.1, by simpa using e.2⟩))] at h2
    exact ⟨by show k + 1 - 1 < V.size; omega, by omega, by rw [← h2]; show k + 1 + pieceF V[k] (tl V (k + 1)) = _; omega⟩
theorem piece_end {V : ByteArray} {k : Nat} (h : PieceAt V k) (hk : ¬ k < V.size) : k = pieceN V.data.toList := by
  obtain ⟨hp, h1, h2⟩ := h
  rw [tl_end V k (by omega)] at h2
  exact h2
theorem goes_tl (V : ByteArray) (k : Nat) (h : k < V.size) : goesB (tl V k) = blk V[k] := by rw [tl_cons V k h]; rfl
theorem toB_app (a : ByteArray) (l : List UInt8) : a ++ toB l = toB (a.data.toList ++ l) := by
  have : (a ++ toB l).data.toList = a.data.toList ++ l := by rw [ByteArray.data_append, Array.toList_append, toB_data]
  rw [← this, toB_back]
theorem app_size (a b : ByteArray) : (a ++ b).size = a.size + b.size := ByteArray.size_append
def PutAt (X acc : List UInt8) (n : Nat) (b : Bool) (V : ByteArray) : Prop := ∃ f, V.size ≤ f ∧ acc ++ putF f n b V.data.toList = X
theorem put_step {X acc : List UInt8} {n k : Nat} {b : Bool} {V : ByteArray} (h : PutAt X acc n b V) (h0 : 0 < V.size) (hk : k = pieceN V.data.toList) : 1 ≤ k ∧ k ≤ V.size ∧
    ((b = false ∧ 78 < n + k) → PutAt X (acc ++ [13, 10] ++ (V.extract 0 k).data.toList) k false (V.extract k V.size)) ∧ (¬ (b = false ∧ 78 < n + k) → PutAt X (acc ++ (V.extract 0 k).data.toList) (n + k) false (V.extract k V.size)) := by
  obtain ⟨f, hf, h⟩ := h
  have hne : V.data.toList ≠ [] := fun e => by have := dataL V; rw [e] at this; simp at this; omega
  obtain ⟨p1, p2⟩ := pieceN_rng hne
  rw [dataL] at p2
  rw [← hk] at p1 p2
  cases f with
  | zero => omega
  | succ f =>
    have e1 : (V.extract 0 k).data.toList = V.data.toList.take k := by rw [Lib.extract_data, List.drop_zero, Nat.sub_zero]
    have hz := ext_size V k V.size
    rw [putF_ne hne, ← hk] at h
    refine ⟨p1, p2, fun hc => ⟨f, by omega, ?_⟩, fun hc => ⟨f, by omega, ?_⟩⟩
    · rw [if_pos hc] at h
      rw [e1, ext_from, ← h]; simp
    · rw [if_neg hc] at h
      rw [e1, ext_from, ← h]; simp
theorem put_stop {X acc : List UInt8} {n : Nat} {b : Bool} {V : ByteArray} (h : PutAt X acc n b V) (h0 : ¬ 0 < V.size) : acc = X := by
  obtain ⟨f, hf, h⟩ := h
  have : V.data.toList = [] := List.eq_nil_of_length_eq_zero (by rw [dataL]; omega)
  rw [this, putF_nil, List.append_nil] at h
  exact h
theorem spc_len (s : ByteArray) : (s.data.toList.map spc).length = s.size := by rw [List.length_map, dataL]
set_option maxHeartbeats 8000000 in
set_option maxRecDepth 100000 in
theorem put_any (s v : ByteArray) (w : World) (hs : s.size ≤ 1000000) (hv : v.size ≤ 1000000) : Calls Tryz.prog 9 #[.string s, .string v] w fun e w' => e = .returned (.string (toB (putL s.data.toList v.data.toList))) ∧ Below w.heap.size w w' := by
  have hR := right_any s w (by omega)
  have hp : putL s.data.toList v.data.toList = if rightB s.data.toList = true then s.data.toList ++ [58, 32] ++ putF (cleanL v.data.toList).length (s.data.toList.length + 2) true (cleanL v.data.toList) ++ [13, 10] else [] := rfl
  rw [hp]
  clear hp
  cases hr : rightB s.data.toList with
  | false =>
    rw [hr] at hR
    have HR := Lib.hid hR
    rw [if_neg (by decide)]
    clear hR hr
    go_enter Tryz.func9, Tryz.ntmps9
    go_wp2_with (go_at_call 27; (with_reducible refine (HR.out).mono ?_); rintro e w1 ⟨rfl, rfl⟩)
    go_ret
    exact ⟨rfl, Below.refl _ _⟩
  | true =>
    rw [hr] at hR
    have HR := Lib.hid hR
    rw [if_pos rfl]
    have hcells : ∀ (W : World) j (u : Value), (fourN.map strV)[j]? = some u → (W.alloc (.cells (fourN.map strV).toArray 9)).cell? ((⟨W.heap.size, 0, none⟩ : Addr).add j) = some u := fun W j u h => cells_new W _ _ j u h
    have hN := fun W => newRep_any W.heap.size 4 4 fourN (W.alloc (.cells (fourN.map strV).toArray 9)) rfl (by decide) (hcells W) (by decide)
    have hRep := fun r B vv w hrow hown => replaceN_any r B vv v w (by omega) hrow hown
    have hsl := spc_len v
    obtain ⟨C, hCe, hCd, hCs⟩ := arrE (v.data.toList.map spc)
    have hC2 : toB (v.data.toList.map spc) = C := hCe.symm
    rw [hC2] at hRep
    have hT := fun w => trimB_any C w (by omega)
    rw [hCd] at hT
    have hcl : Hd.trimB (v.data.toList.map spc) = cleanL v.data.toList := rfl
    have htl := trimB_le (v.data.toList.map spc)
    rw [hcl] at hT htl
    obtain ⟨D, hDe, hDd, hDs⟩ := arrE (cleanL v.data.toList)
    have hD2 : toB (cleanL v.data.toList) = D := hDe.symm
    rw [hD2] at hT
    have hst : PutAt (s.data.toList ++ [58, 32] ++ putF (cleanL v.data.toList).length (s.data.toList.length + 2) true (cleanL v.data.toList)) (s ++ ⟨#[58, 32]⟩ : ByteArray).data.toList (s.size + 2) true D := by
      refine ⟨(cleanL v.data.toList).length, by omega, ?_⟩
      rw [hDd, ← dataL s, ByteArray.data_append, Array.toList_append]
    generalize s.data.toList ++ [58, 32] ++ putF (cleanL v.data.toList).length (s.data.toList.length + 2) true (cleanL v.data.toList) = X at hst ⊢
    have hns : (s ++ ⟨#[58, 32]⟩ : ByteArray).size = s.size + 2 := app_size _ _
    have hDl : D.size ≤ 1000000 := by omega
    have HN := Lib.hid hN
    have HRep := Lib.hid hRep
    have HT := Lib.hid hT
    have HST := Lib.hid hst
    clear hN hRep hT hcells hsl hCe hCd hCs hC2 hcl htl hDe hDd hDs hD2 hst hR hr
    go_enter Tryz.func9, Tryz.ntmps9
    go_wp2_with (first
      | (go_at_call 27; (with_reducible refine (HR.out).mono ?_); rintro e w1 ⟨rfl, rfl⟩)
      | (go_at_call 28; go_loud ((refine (HN.out w).mono ?_); rintro e w2 ⟨r, vv, rfl, hrow, hown, hr, hb2⟩))
      | (go_at_call 29; go_loud ((refine (HRep.out r _ vv _ hrow hown).mono ?_); rintro e w3 ⟨rfl, hb3⟩))
      | (go_at_call 30; go_loud ((with_reducible refine (HT.out _).mono ?_); rintro e w4 ⟨rfl, hb4⟩; have hB4 := Bld.new w4))
      | (go_at_call 31; go_loud ((with_reducible refine (ws w4.heap.size w4.heap.size [] _ _ hB4 (by rw [hns]; simp; omega) (heap_size_alloc_le _ _)).mono ?_); rintro e w5 ⟨rfl, hB5, hb5, -⟩)))
    have ha : w.heap.size ≤ (w.alloc (.cells (fourN.map strV).toArray 9)).heap.size := heap_size_alloc_le _ _
    have hx3 := (((Below.refl w.heap.size w).alloc (Nat.le_refl _) (.cells (fourN.map strV).toArray 9)).trans (hb2.mono ha)).trans (hb3.mono (Nat.le_trans ha hr))
    have hx4 := hx3.trans (hb4.mono hx3.size)
    have hx5 := (hx4.alloc hx4.size _).trans (hb5.mono hx4.size)
    have hz5 : w4.heap.size ≤ w5.heap.size := Nat.le_trans (heap_size_alloc_le _ _) hb5.size
    have hBs : Bld w5 w4.heap.size w4.heap.size ((s ++ ⟨#[58, 32]⟩ : ByteArray).data.toList) := hB5
    have hal5 : (s ++ ⟨#[58, 32]⟩ : ByteArray).data.toList.length = s.size + 2 := by rw [dataL, hns]
    clear hB5 hB4 hb5 hb4 hb3 hb2 hx3 hrow hown HN HRep HT ha hr
    generalize (s ++ ⟨#[58, 32]⟩ : ByteArray).data.toList = acc0 at HST hBs hal5
    go_wp2
    go_loopw [1, 6, 7, 8] (fun sv nv bv _ wr => ∃ (V : ByteArray) (n : Nat) (b : Bool) (acc : List UInt8), sv = .string V ∧ nv = .int .i64 n ∧ bv = .bool b ∧ Bld wr w4.heap.size w4.heap.size acc ∧ Below w4.heap.size w5 wr ∧ n + V.size ≤ s.size + 2 + D.size ∧ acc.length + 3 * V.size ≤ s.size + 2 + 3 * D.size ∧ Hid (PutAt X acc n b V)) (fun sv _ _ _ _ => match sv with | .string V => V.size | _ => 0)
    case atStart => exact ⟨D, s.size + 2, true, acc0, rfl, by go_num, rfl, hBs, Below.refl _ _, by omega, by omega, HST⟩
    case round =>
      clear HST hBs hal5
      obtain ⟨V, n, b, acc, rfl, rfl, rfl, hB, hbel, hn, hac, hrel⟩ := hrel
      have hz := Nat.le_trans hz5 hbel.size
      by_cases h0 : 0 < V.size
      · have hne := neS h0
        have hps := Lib.hid (piece_start h0)
        have hput := hrel
        clear hrel
        go_wp2
        go_loop [8] (fun kv => ∃ k : Nat, kv = .int .i64 k ∧ k ≤ V.size ∧ 1 ≤ k ∧ Hid (PieceAt V k)) (fun kv => V.size - (intOf kv).toNat)
        case atStart => exact ⟨1, by first | rfl | trivial, by omega, by omega, hps⟩
        case round =>
          clear hps
          obtain ⟨k, rfl, hk, hk1, hpk⟩ := hrel
          by_cases hlt : k < V.size
          · obtain ⟨hp, s1, s2⟩ := piece_step hpk.out hlt
            have hg1 := fun w => goes_any (V.extract k V.size) w
            rw [ext_from, show V.data.toList.drop k = tl V k from rfl, goes_tl V k hlt] at hg1
            have hg2 := fun w => goes_any (V.extract (k - 1) V.size) w
            rw [ext_from, show V.data.toList.drop (k - 1) = tl V (k - 1) from rfl, goes_tl V (k - 1) hp] at hg2
            generalize hP1 : V.extract k V.size = P1 at hg1
            generalize hP2 : V.extract (k - 1) V.size = P2 at hg2
            have x1 : (k : Int) ≤ (V.size : Int) := by omega
            have x2 : (k : Int) - 1 ≤ (V.size : Int) := by omega
            have x3 : (0 : Int) ≤ (k : Int) - 1 := by omega
            have x4 : ((k : Int) - 1).toNat = k - 1 := by omega
            cases hb1 : blk V[k] with
            | false =>
              rw [hb1] at hg1
              have HG1 := Lib.hid hg1
              have hd := Lib.hid (s2 (fun e => by rw [hb1] at e; cases e.1))
              clear s1 s2 hg1 hg2 hpk hb1 hput
              go_wp2_with (go_at_call 25; (with_reducible refine (HG1.out _).mono ?_); rintro e w1 ⟨rfl, rfl⟩)
              go_round
              case rel => exact ⟨k + 1, by go_num, by omega, by omega, hd⟩
              case measure => simp [intOf]; omega
            | true =>
              rw [hb1] at hg1
              have HG1 := Lib.hid hg1
              cases hb2 : blk (V[k - 1]'hp) with
              | true =>
                rw [hb2] at hg2
                have HG2 := Lib.hid hg2
                have hd := Lib.hid (s2 (fun e => by rw [hb2] at e; cases e.2))
                clear s1 s2 hg1 hg2 hpk hb1 hb2 hput
                go_wp2_with (first
                  | (go_at_call 25; (with_reducible refine (HG1.out _).mono ?_); rintro e w1 ⟨rfl, rfl⟩)
                  | (go_at_call 25; (with_reducible refine (HG2.out _).mono ?_); rintro e w1 ⟨rfl, rfl⟩))
                go_round
                case rel => exact ⟨k + 1, by go_num, by omega, by omega, hd⟩
                case measure => simp [intOf]; omega
              | false =>
                rw [hb2] at hg2
                have HG2 := Lib.hid hg2
                have hkp := s1 ⟨hb1, hb2⟩
                clear s1 s2 hg1 hg2 hpk hb1 hb2
                obtain ⟨p1, p2, q1, q2⟩ := put_step hput.out h0 hkp
                have hTs := ext_size V 0 k
                have hVs := ext_size V k V.size
                generalize hTe : V.extract 0 k = T at hTs q1 q2
                rw [hP1] at hVs q1 q2
                have z1 : (k : Int) ≤ (V.size : Int) := by omega
                have z0 : (0 : Int) ≤ (k : Int) := by omega
                have y1 : T.size = k := by omega
                have y2 : P1.size + k = V.size := by omega
                have y3 : acc.length ≤ 5000002 := by omega
                have y4 : acc.length + T.size + 2 ≤ 9000000 := by omega
                have y5 : w4.heap.size ≤ wr.heap.size := hz
                by_cases hy : b = false ∧ 78 < n + k
                · obtain ⟨rfl, h78⟩ := hy
                  have hd := Lib.hid (q1 ⟨rfl, h78⟩)
                  have hq : decide ((78 : Int) < (n : Int) + (k : Int)) = true := decide_eq_true (by omega)
                  have HW := Lib.hid (ws w4.heap.size w4.heap.size acc ⟨#[13, 10]⟩ wr hB (by show _ + 2 ≤ _; omega) hz)
                  clear q1 q2 hput hkp hB hTs hVs
                  go_wp2_with (first
                    | (go_at_call 25; (with_reducible refine (HG1.out _).mono ?_); rintro e w1 ⟨rfl, rfl⟩)
                    | (go_at_call 25; (with_reducible refine (HG2.out _).mono ?_); rintro e w1 ⟨rfl, rfl⟩)
                    | (go_at_call 31; (with_reducible refine HW.out.mono ?_); rintro e w6 ⟨rfl, hB6, hb6, -⟩; have hz6 := Nat.le_trans hz hb6.size; have HW2 := Lib.hid (ws w4.heap.size w4.heap.size _ T w6 hB6 (by rw [List.length_append]; show acc.length + 2 + _ ≤ _; omega) hz6); clear hB6)
                    | (go_at_call 31; (with_reducible refine HW2.out.mono ?_); rintro e w7 ⟨rfl, hB7, hb7, -⟩))
                  go_roundw
                  case rel => exact ⟨P1, k, false, _, rfl, by go_num, rfl, hB7, (hbel.trans hb6).trans hb7, by omega, by rw [List.length_append, List.length_append, dataL]; show acc.length + 2 + T.size + _ ≤ _; omega, hd⟩
                  case measure => show P1.size < V.size; omega
                · have hd := Lib.hid (q2 hy)
                  have HW := Lib.hid (ws w4.heap.size w4.heap.size acc T wr hB (by omega) hz)
                  cases b with
                  | false =>
                    have h78 : ¬ 78 < n + k := fun e => hy ⟨rfl, e⟩
                    have hq : decide ((78 : Int) < (n : Int) + (k : Int)) = false := decide_eq_false (by omega)
                    clear q1 q2 hput hkp hB hTs hVs hy
                    go_wp2_with (first
                      | (go_at_call 25; (with_reducible refine (HG1.out _).mono ?_); rintro e w1 ⟨rfl, rfl⟩)
                      | (go_at_call 25; (with_reducible refine (HG2.out _).mono ?_); rintro e w1 ⟨rfl, rfl⟩)
                      | (go_at_call 31; (with_reducible refine HW.out.mono ?_); rintro e w7 ⟨rfl, hB7, hb7, -⟩))
                    go_roundw
                    case rel => exact ⟨P1, n + k, false, _, rfl, by go_num, rfl, hB7, hbel.trans hb7, by omega, by rw [List.length_append, dataL]; omega, hd⟩
                    case measure => show P1.size < V.size; omega
                  | true =>
                    clear q1 q2 hput hkp hB hTs hVs hy
                    go_wp2_with (first
                      | (go_at_call 25; (with_reducible refine (HG1.out _).mono ?_); rintro e w1 ⟨rfl, rfl⟩)
                      | (go_at_call 25; (with_reducible refine (HG2.out _).mono ?_); rintro e w1 ⟨rfl, rfl⟩)
                      | (go_at_call 31; (with_reducible refine HW.out.mono ?_); rintro e w7 ⟨rfl, hB7, hb7, -⟩))
                    go_roundw
                    case rel => exact ⟨P1, n + k, false, _, rfl, by go_num, rfl, hB7, hbel.trans hb7, by omega, by rw [List.length_append, dataL]; omega, hd⟩
                    case measure => show P1.size < V.size; omega
          · have hkp := piece_end hpk.out hlt
            clear hpk
            obtain ⟨p1, p2, q1, q2⟩ := put_step hput.out h0 hkp
            have hTs := ext_size V 0 k
            have hVs := ext_size V k V.size
            generalize hTe : V.extract 0 k = T at hTs q1 q2
            generalize hV2e : V.extract k V.size = V2 at hVs q1 q2
            have z1 : (k : Int) ≤ (V.size : Int) := by omega
            have z0 : (0 : Int) ≤ (k : Int) := by omega
            have y1 : T.size = k := by omega
            have y2 : V2.size + k = V.size := by omega
            have y3 : acc.length ≤ 5000002 := by omega
            have y4 : acc.length + T.size + 2 ≤ 9000000 := by omega
            have y5 : w4.heap.size ≤ wr.heap.size := hz
            by_cases hy : b = false ∧ 78 < n + k
            · obtain ⟨rfl, h78⟩ := hy
              have hd := Lib.hid (q1 ⟨rfl, h78⟩)
              have hq : decide ((78 : Int) < (n : Int) + (k : Int)) = true := decide_eq_true (by omega)
              have HW := Lib.hid (ws w4.heap.size w4.heap.size acc ⟨#[13, 10]⟩ wr hB (by show _ + 2 ≤ _; omega) hz)
              clear q1 q2 hput hkp hB hTs hVs
              go_wp2_with (first
                | (go_at_call 25; (with_reducible refine (HG1.out _).mono ?_); rintro e w1 ⟨rfl, rfl⟩)
                | (go_at_call 25; (with_reducible refine (HG2.out _).mono ?_); rintro e w1 ⟨rfl, rfl⟩)
                | (go_at_call 31; (with_reducible refine HW.out.mono ?_); rintro e w6 ⟨rfl, hB6, hb6, -⟩; have hz6 := Nat.le_trans hz hb6.size; have HW2 := Lib.hid (ws w4.heap.size w4.heap.size _ T w6 hB6 (by rw [List.length_append]; show acc.length + 2 + _ ≤ _; omega) hz6); clear hB6)
                | (go_at_call 31; (with_reducible refine HW2.out.mono ?_); rintro e w7 ⟨rfl, hB7, hb7, -⟩))
              go_roundw
              case rel => exact ⟨V2, k, false, _, rfl, by go_num, rfl, hB7, (hbel.trans hb6).trans hb7, by omega, by rw [List.length_append, List.length_append, dataL]; show acc.length + 2 + T.size + _ ≤ _; omega, hd⟩
              case measure => show V2.size < V.size; omega
            · have hd := Lib.hid (q2 hy)
              have HW := Lib.hid (ws w4.heap.size w4.heap.size acc T wr hB (by omega) hz)
              cases b with
              | false =>
                have h78 : ¬ 78 < n + k := fun e => hy ⟨rfl, e⟩
                have hq : decide ((78 : Int) < (n : Int) + (k : Int)) = false := decide_eq_false (by omega)
                clear q1 q2 hput hkp hB hTs hVs hy
                go_wp2_with (first
                  | (go_at_call 25; (with_reducible refine (HG1.out _).mono ?_); rintro e w1 ⟨rfl, rfl⟩)
                  | (go_at_call 25; (with_reducible refine (HG2.out _).mono ?_); rintro e w1 ⟨rfl, rfl⟩)
                  | (go_at_call 31; (with_reducible refine HW.out.mono ?_); rintro e w7 ⟨rfl, hB7, hb7, -⟩))
                go_roundw
                case rel => exact ⟨V2, n + k, false, _, rfl, by go_num, rfl, hB7, hbel.trans hb7, by omega, by rw [List.length_append, dataL]; omega, hd⟩
                case measure => show V2.size < V.size; omega
              | true =>
                clear q1 q2 hput hkp hB hTs hVs hy
                go_wp2_with (first
                  | (go_at_call 25; (with_reducible refine (HG1.out _).mono ?_); rintro e w1 ⟨rfl, rfl⟩)
                  | (go_at_call 25; (with_reducible refine (HG2.out _).mono ?_); rintro e w1 ⟨rfl, rfl⟩)
                  | (go_at_call 31; (with_reducible refine HW.out.mono ?_); rintro e w7 ⟨rfl, hB7, hb7, -⟩))
                go_roundw
                case rel => exact ⟨V2, n + k, false, _, rfl, by go_num, rfl, hB7, hbel.trans hb7, by omega, by rw [List.length_append, dataL]; omega, hd⟩
                case measure => show V2.size < V.size; omega
      · have hnil := nilS (S := V) (by omega)
        have hX := put_stop hrel.out h0
        subst hX
        have hS := bstr w4.heap.size w4.heap.size acc wr hB hz
        have HS := Lib.hid hS
        have hcr : (⟨acc.toArray⟩ : ByteArray) ++ ⟨#[13, 10]⟩ = toB (acc ++ [13, 10]) := toB_app (toB acc) [13, 10] |>.trans (by rw [toB_data])
        have hcs : ((⟨acc.toArray⟩ : ByteArray) ++ ⟨#[13, 10]⟩).size = acc.length + 2 := app_size _ _
        have hcz : (⟨acc.toArray⟩ : ByteArray).size = acc.length := by simp [ByteArray.size]
        clear hrel hS hB h0
        go_wp2_with (go_at_call 32; (with_reducible refine HS.out.mono ?_); rintro e w' ⟨rfl, -, hb3, -⟩)
        go_ret
        exact ⟨by first | rw [hcr] | rfl, (hx5.trans (hbel.mono hx4.size)).trans (hb3.mono hx4.size)⟩
end Go.Proofs.YtnclbbgdfaeilaaGreatDoor
