/- Walks: the program's codec: B64. -/
import Derived.Test.YtgkbjgmcgbnnaaaDoorCod6d
import Derived.Lib.BufferWrite
import Derived.Laws.CopyOwn
import Derived.Deep.DeepCutAuto
import Derived.Deep.CutBlock
namespace Go.Proofs.YtgkbjgmcgbnnaaaDoor
open Go.RowKit Pk C6 Hx

theorem copy_min {P : Program} (w : World) (dT sT ty elem : TypeId) (g dLen dCap : Nat) (s : ByteArray) (cur : Array Value) (t : TypeId)
    (hu : P.underlying dT = some (.slice elem)) (hs : (P.info? elem).map (·.size) = some 1) (hg : w.heap[g]? = some (.cells cur t (0, 0))) (hle : dLen ≤ s.size) (hfit : dLen ≤ cur.size) :
    (Builtin.copy_ #[dT, sT] ty #[.slice (some ⟨g, 0, none⟩) dLen dCap, .string s]).run P w =
      .ok (goInt dLen) (w.setRow g (cur.toList.take 0 ++ Lib.byteCells (s.data.toList.take dLen) ++ cur.toList.drop (0 + dLen)).toArray) := by
  have hlen : (Lib.byteCells (s.data.toList.take dLen)).length = dLen := by
    rw [Lib.byteCells_length, List.length_take]
    have : s.data.toList.length = s.size := rfl
    omega
  have hst := run_storeCells_at P g 0 t (Lib.byteCells (s.data.toList.take dLen)) 0 cur w hg (by rw [hlen]; simpa using hfit) (Lib.byteCells_one _)
  have hmin : Nat.min s.size dLen = dLen := Nat.min_eq_right hle
  have htk : List.take dLen (List.map (fun b : UInt8 => Value.int IntKind.u8 (b.toNat : Int)) s.data.toList) = Lib.byteCells (s.data.toList.take dLen) := by
    rw [← List.map_take]
    rfl
  rw [hlen] at hst
  simp only [Nat.add_zero] at hst
  cases hq : P.info? elem with
  | none => simp [hq] at hs
  | some i =>
    simp [Builtin.copy_, run_underlying hu, Builtin.lenOf, Builtin.firstCells, sizeOf, typeInfo, hq, hmin]
    rw [htk, hst]
    simp [Result.andThen]

/-- the three bytes that a round takes, zeros behind the end -/
def x3 (l : List UInt8) : List UInt8 := l.take 3 ++ List.replicate (3 - l.length) 0
theorem x3_cells (w : World) (ty : TypeId) (g : Nat) (S : ByteArray) (hg : w.heap[g]? = some (.cells #[.int .u8 0, .int .u8 0, .int .u8 0] 38 (0, 0))) :
    (Builtin.copy_ #[25, 9] ty #[.slice (some ⟨g, 0, none⟩) 3 3, .string S]).run Tryd.prog w =
      .ok (goInt (min 3 S.size : Nat)) (w.setRow g (Lib.byteCells (x3 S.data.toList)).toArray) := by
  have hs : S.data.toList.length = S.size := rfl
  by_cases h : S.size ≤ 3
  · rw [Lib.run_copy_row_string w 25 9 ty 5 g 0 3 3 S _ 38 Tryd.underlying25 (by kernel_rfl) hg h (by simpa using h)]
    congr 1
    · rw [Nat.min_eq_right h]
    · congr 2
      unfold x3
      rw [show List.take 3 S.data.toList = S.data.toList from List.take_of_length_le (by omega), hs, Lib.byteCells_append, List.take_zero, List.nil_append]
      congr 1
      rcases (show S.size = 0 ∨ S.size = 1 ∨ S.size = 2 ∨ S.size = 3 by omega) with e | e | e | e <;> rw [e] <;> rfl
  · rw [copy_min w 25 9 ty 5 g 3 3 S _ 38 Tryd.underlying25 (by kernel_rfl) hg (by omega) (by simp)]
    congr 1
    · rw [Nat.min_eq_left (by omega)]
    · congr 2
      unfold x3
      rw [hs, show 3 - S.size = 0 by omega]
      simp

/-- the value of a round's bytes -/
def v3 : List UInt8 → Int
  | a :: b :: c :: _ => q3 a b c
  | _ => 0
theorem digits_at : ∀ i : Nat, (h : i < 64) → ((⟨#[65, 66, 67, 68, 69, 70, 71, 72, 73, 74, 75, 76, 77, 78, 79, 80, 81, 82, 83, 84, 85, 86, 87, 88, 89, 90, 97, 98, 99, 100, 101, 102, 103, 104, 105, 106, 107, 108, 109, 110, 111, 112, 113, 114, 115, 116, 117, 118, 119, 120, 121, 122, 48, 49, 50, 51, 52, 53, 54, 55, 56, 57, 43, 47]⟩ : ByteArray)[i]'h) = dig (i : Int) := by
  intro i h
  have : ∀ i : Fin 64, ((⟨#[65, 66, 67, 68, 69, 70, 71, 72, 73, 74, 75, 76, 77, 78, 79, 80, 81, 82, 83, 84, 85, 86, 87, 88, 89, 90, 97, 98, 99, 100, 101, 102, 103, 104, 105, 106, 107, 108, 109, 110, 111, 112, 113, 114, 115, 116, 117, 118, 119, 120, 121, 122, 48, 49, 50, 51, 52, 53, 54, 55, 56, 57, 43, 47]⟩ : ByteArray)[i.val]'i.isLt) = dig (i.val : Int) := by decide
  exact this ⟨i, h⟩
def quad (l : List UInt8) : List UInt8 := [dig (v3 (x3 l) / 262144), dig (v3 (x3 l) / 4096 % 64), if 2 ≤ l.length then dig (v3 (x3 l) / 64 % 64) else 61, if 3 ≤ l.length then dig (v3 (x3 l) % 64) else 61]
theorem sgR_quad (l : List UInt8) (h : l ≠ []) : sgR l = quad l ++ sgR (l.drop 3) := by
  match l, h with
  | [a], _ => simp [quad, sgR, x3, v3, q3, q1, List.replicate]
  | [a, b], _ => simp [quad, sgR, x3, v3, q3, q2]
  | a :: b :: c :: r, _ => simp [quad, sgR, x3, v3]
theorem x3_of (l : List UInt8) : ∃ a b c, x3 l = [a, b, c] := by
  match l with
  | [] => exact ⟨0, 0, 0, rfl⟩
  | [a] => exact ⟨a, 0, 0, rfl⟩
  | [a, b] => exact ⟨a, b, 0, rfl⟩
  | a :: b :: c :: r => exact ⟨a, b, c, by simp [x3]⟩

theorem copy_world (wr : World) (S : ByteArray) {a b c : UInt8} (hx : x3 S.data.toList = [a, b, c]) : ∃ W, (∀ ty, (Builtin.copy_ #[25, 9] ty #[.slice (some ⟨wr.heap.size, 0, none⟩) 3 3, .string S]).run Tryd.prog (wr.alloc (.cells #[.int .u8 0, .int .u8 0, .int .u8 0] 38)) = .ok (.int .i64 (min 3 S.size : Nat)) W) ∧
    Below wr.heap.size wr W ∧ W.cell? ⟨wr.heap.size, 0, none⟩ = some (.int .u8 a.toNat) ∧ W.cell? ⟨wr.heap.size, 1, none⟩ = some (.int .u8 b.toNat) ∧ W.cell? ⟨wr.heap.size, 2, none⟩ = some (.int .u8 c.toNat) := by
  have hg : (wr.alloc (.cells #[.int .u8 0, .int .u8 0, .int .u8 0] 38)).heap[wr.heap.size]? = some (.cells #[.int .u8 0, .int .u8 0, .int .u8 0] 38 (0, 0)) := heap_alloc_new wr _
  refine ⟨_, fun ty => x3_cells _ ty _ S hg, below_setRow ((Below.refl _ _).alloc (Nat.le_refl _) _) (Nat.le_refl _) _, ?_, ?_, ?_⟩
  all_goals
    rw [cell_setRow_same _ _ _ _ _ _ _ hg, hx]
    rfl
def B64Is (s S : ByteArray) (acc : List UInt8) (n : Nat) : Prop := acc ++ pbR n (sgR (tl S 0)) = pbR 0 (sgR (tl s 0))
set_option maxHeartbeats 4000000 in
theorem b64P_any (s : ByteArray) (w : World) (hs : s.size ≤ 1000000) :
    Calls Tryd.prog 10 #[.string s] w fun e w' => e = .returned (.string ⟨(b64R s.data.toList).toArray⟩) ∧ Below w.heap.size w w' := by
  go_enter Tryd.func10, Tryd.ntmps10
  go_wp2
  go_loopw [0] (fun v wr => ∃ (S : ByteArray) (acc : List UInt8) (n : Nat), v = .string S ∧ Bld wr w.heap.size w.heap.size acc ∧ wr.heap[w.heap.size + 1]? = some (.cells #[.int .i64 n] 3 (0, 0)) ∧ Below w.heap.size w wr ∧ n + 4 * S.size ≤ 4 * s.size ∧ acc.length ≤ 3 * n ∧ B64Is s S acc n) (fun v _ => match v with | .string S => S.size | _ => 0)
  case atStart =>
    refine ⟨s, [], 0, rfl, (Bld.new w).alloc _, ?_, ((Below.refl _ _).alloc (Nat.le_refl _) _).alloc (by simp) _, by omega, by simp, rfl⟩
    have := heap_alloc_new (w.alloc (.cells #[.pointer none, .slice none 0 0] 31)) (.cells #[.int .i64 0] 3 (0, 0))
    simpa using this
  case round =>
    obtain ⟨S, acc, n, rfl, hB, hg, hbel, hn, hal, hrel⟩ := hrel
    have hsz := hbel.size
    by_cases h0 : 0 < S.size
    · have hne := str_ne h0
      obtain ⟨a, b, c, hx⟩ := x3_of S.data.toList
      obtain ⟨W, hcp, hbW, hc0, hc1, hc2⟩ := copy_world wr S hx
      obtain ⟨k, hk⟩ : ∃ k, k = min 3 S.size := ⟨_, rfl⟩
      rw [← hk] at hcp
      have hBW := hB.below hbW (Nat.le_refl _)
      have hlg := lt_of_block hg
      have hgW := (hbW.block _ hlg).trans hg
      have hzW := hbW.size
      have hbelW := hbel.trans (hbW.mono hsz)
      have HC := Lib.hid hcp
      clear hcp
      have hk1 : 1 ≤ k := by omega
      have hk3 : k ≤ 3 := by omega
      have HK := Lib.hid hk
      clear hk
      have ha := a.toNat_lt
      have hb := b.toNat_lt
      have hc := c.toNat_lt
      obtain ⟨v, hv⟩ : ∃ v, v = q3 a b c := ⟨_, rfl⟩
      have hv0 : 0 ≤ v := by rw [hv]; unfold q3; omega
      have hv1 : v < 16777216 := by rw [hv]; unfold q3; omega
      obtain ⟨d0, e0⟩ : ∃ d, d = dig (v / 262144) := ⟨_, rfl⟩
      obtain ⟨d1, e1⟩ : ∃ d, d = dig (v / 4096 % 64) := ⟨_, rfl⟩
      obtain ⟨d2, e2⟩ : ∃ d, d = if 2 ≤ k then dig (v / 64 % 64) else 61 := ⟨_, rfl⟩
      obtain ⟨d3, e3⟩ : ∃ d, d = if 3 ≤ k then dig (v % 64) else 61 := ⟨_, rfl⟩
      have hq : sgR (tl S 0) = [d0, d1, d2, d3] ++ sgR (tl (S.extract k S.size) 0) := by
        have hl : S.data.toList.length = S.size := rfl
        rw [tl_zero, sgR_quad _ (fun e => by rw [e] at hl; simp at hl; omega)]
        have hdrop : S.data.toList.drop 3 = tl (S.extract k S.size) 0 := by
          rw [ntl_tl]
          have hk' := HK.out
          by_cases h3 : 3 ≤ S.size
          · rw [hk', Nat.min_eq_left h3]; rfl
          · rw [tl_end S k (by omega), List.drop_eq_nil_of_le (by omega)]
        rw [hdrop]
        have hk' := HK.out
        have hv3 : v3 (x3 S.data.toList) = v := by rw [hx, hv]; rfl
        unfold quad
        rw [hv3, hl, e0, e1, e2, e3]
        congr 4
        · congr 1; apply propext; omega
        · congr 2; apply propext; omega
      have hin : Hid (acc ++ pbR n ([d0, d1, d2, d3] ++ sgR (tl (S.extract k S.size) 0)) = pbR 0 (sgR (tl s 0))) := by
        show _ = _
        rw [← hq]; exact hrel
      obtain ⟨R, hR⟩ : ∃ R, R = sgR (tl (S.extract k S.size) 0) := ⟨_, rfl⟩
      rw [← hR] at hin
      clear hq
      have HR := Lib.hid hR
      clear hR
      clear hrel hx
      have w1 : IntKind.i64.wrap (a.toNat : Int) = a.toNat := w64 rfl (by omega) (by omega)
      have w2 : IntKind.i64.wrap ((a.toNat : Int) * 65536) = (a.toNat : Int) * 65536 := w64 rfl (by omega) (by omega)
      have w3 : IntKind.i64.wrap (b.toNat : Int) = b.toNat := w64 rfl (by omega) (by omega)
      have w4 : IntKind.i64.wrap ((b.toNat : Int) * 256) = (b.toNat : Int) * 256 := w64 rfl (by omega) (by omega)
      have w5 : IntKind.i64.wrap (c.toNat : Int) = c.toNat := w64 rfl (by omega) (by omega)
      have o1 : bits .or .i64 ((a.toNat : Int) * 65536) ((b.toNat : Int) * 256) = (a.toNat : Int) * 65536 + (b.toNat : Int) * 256 := or_i64 16 (by decide) (by omega) (by omega) (by omega) (by omega) (by omega)
      have o2 : bits .or .i64 ((a.toNat : Int) * 65536 + (b.toNat : Int) * 256) (c.toNat : Int) = v := by
        rw [or_i64 8 (by decide) (by omega) (by omega) (by omega) (by omega) (by omega), hv]; rfl
      clear hv
      go_wp2_with (refine Lib.wpList_copy_run _ rfl (.tmp 18) (.tmp 19) 25 9 rfl _ _ rfl rfl (HC.out _) ?_)
      clear w1 w2 w3 w4 w5 o1 o2 hc0 hc1 hc2
      go_loopw [34] (fun i wi => ∃ (j : Nat) (ac : List UInt8), i = .int .i64 j ∧ j ≤ 4 ∧ Bld wi w.heap.size w.heap.size ac ∧ wi.heap[w.heap.size + 1]? = some (.cells #[.int .i64 (n + j : Nat)] 3 (0, 0)) ∧ Below w.heap.size w wi ∧ ac.length ≤ 3 * (n + j) ∧ Hid (ac ++ pbR (n + j) ([d0, d1, d2, d3].drop j ++ R) = pbR 0 (sgR (tl s 0)))) (fun i _ => 4 - (intOf i).toNat)
      case atStart => exact ⟨0, acc, rfl, by omega, hBW, hgW, hbelW, by omega, hin⟩
      case round =>
        obtain ⟨j, ac, rfl, hj, hBi, hgi, hbi, hal2, hr⟩ := hrel
        have hzi := hbi.size
        rcases (show j = 0 ∨ j = 1 ∨ j = 2 ∨ j = 3 ∨ j = 4 by omega) with rfl | rfl | rfl | rfl | rfl
        · have hst := pb_step (c := d0) (r := [d0, d1, d2, d3].drop (0 + 1) ++ R) hr
          clear hr
          have hpl := pb_len (n + 0) d0
          have hd : d0 = dig ((v / 262144) % 64) := by rw [e0]; congr 1; omega
          have m : bits .and .i64 (v / 262144) 63 = (v / 262144) % 64 := and_i64_63 _ (by omega) (by omega)
          have x : (⟨#[65, 66, 67, 68, 69, 70, 71, 72, 73, 74, 75, 76, 77, 78, 79, 80, 81, 82, 83, 84, 85, 86, 87, 88, 89, 90, 97, 98, 99, 100, 101, 102, 103, 104, 105, 106, 107, 108, 109, 110, 111, 112, 113, 114, 115, 116, 117, 118, 119, 120, 121, 122, 48, 49, 50, 51, 52, 53, 54, 55, 56, 57, 43, 47]⟩ : ByteArray)[((v / 262144) % 64).toNat]'(by show ((v / 262144) % 64).toNat < 64; omega) = d0 := by rw [digits_at _ (by omega), hd, Int.toNat_of_nonneg (by omega)]
          clear hd e0 e1 e2 e3
          go_wp2_with (go_at_call 24; refine (put_any _ _ _ _ _ d0 _ hBi hgi (by omega) (by omega) (by omega) (by omega) (by omega)).mono ?_; rintro e w' ⟨rfl, hB1, hg1, hb1⟩)
          go_roundw
          case rel => exact ⟨0 + 1, _, by go_num, by omega, hB1, hg1, hbi.trans hb1, by rw [List.length_append]; omega, hst⟩
          case measure => simp [intOf]
        · have hst := pb_step (c := d1) (r := [d0, d1, d2, d3].drop (1 + 1) ++ R) hr
          clear hr
          have hpl := pb_len (n + 1) d1
          have hd : d1 = dig ((v / 4096) % 64) := by rw [e1]
          have m : bits .and .i64 (v / 4096) 63 = (v / 4096) % 64 := and_i64_63 _ (by omega) (by omega)
          have x : (⟨#[65, 66, 67, 68, 69, 70, 71, 72, 73, 74, 75, 76, 77, 78, 79, 80, 81, 82, 83, 84, 85, 86, 87, 88, 89, 90, 97, 98, 99, 100, 101, 102, 103, 104, 105, 106, 107, 108, 109, 110, 111, 112, 113, 114, 115, 116, 117, 118, 119, 120, 121, 122, 48, 49, 50, 51, 52, 53, 54, 55, 56, 57, 43, 47]⟩ : ByteArray)[((v / 4096) % 64).toNat]'(by show ((v / 4096) % 64).toNat < 64; omega) = d1 := by rw [digits_at _ (by omega), hd, Int.toNat_of_nonneg (by omega)]
          clear hd e0 e1 e2 e3
          go_wp2_with (go_at_call 24; refine (put_any _ _ _ _ _ d1 _ hBi hgi (by omega) (by omega) (by omega) (by omega) (by omega)).mono ?_; rintro e w' ⟨rfl, hB1, hg1, hb1⟩)
          go_roundw
          case rel => exact ⟨1 + 1, _, by go_num, by omega, hB1, hg1, hbi.trans hb1, by rw [List.length_append]; omega, hst⟩
          case measure => simp [intOf]
        · have hst := pb_step (c := d2) (r := [d0, d1, d2, d3].drop (2 + 1) ++ R) hr
          clear hr
          by_cases hk2 : 2 ≤ k
          · have hpl := pb_len (n + 2) d2
            have hd : d2 = dig ((v / 64) % 64) := by rw [e2, if_pos hk2]
            have m : bits .and .i64 (v / 64) 63 = (v / 64) % 64 := and_i64_63 _ (by omega) (by omega)
            have x : (⟨#[65, 66, 67, 68, 69, 70, 71, 72, 73, 74, 75, 76, 77, 78, 79, 80, 81, 82, 83, 84, 85, 86, 87, 88, 89, 90, 97, 98, 99, 100, 101, 102, 103, 104, 105, 106, 107, 108, 109, 110, 111, 112, 113, 114, 115, 116, 117, 118, 119, 120, 121, 122, 48, 49, 50, 51, 52, 53, 54, 55, 56, 57, 43, 47]⟩ : ByteArray)[((v / 64) % 64).toNat]'(by show ((v / 64) % 64).toNat < 64; omega) = d2 := by rw [digits_at _ (by omega), hd, Int.toNat_of_nonneg (by omega)]
            clear hd e0 e1 e2 e3
            go_wp2_with (go_at_call 24; refine (put_any _ _ _ _ _ d2 _ hBi hgi (by omega) (by omega) (by omega) (by omega) (by omega)).mono ?_; rintro e w' ⟨rfl, hB1, hg1, hb1⟩)
            go_roundw
            case rel => exact ⟨2 + 1, _, by go_num, by omega, hB1, hg1, hbi.trans hb1, by rw [List.length_append]; omega, hst⟩
            case measure => simp [intOf]
          · have hd : d2 = 61 := by rw [e2, if_neg hk2]
            have hpl := pb_len (n + 2) 61
            rw [hd] at hst
            clear hd e0 e1 e2 e3
            go_wp2_with (go_at_call 24; refine (put_any _ _ _ _ _ 61 _ hBi hgi (by omega) (by omega) (by omega) (by omega) (by omega)).mono ?_; rintro e w' ⟨rfl, hB1, hg1, hb1⟩)
            go_roundw
            case rel => exact ⟨2 + 1, _, by go_num, by omega, hB1, hg1, hbi.trans hb1, by rw [List.length_append]; omega, hst⟩
            case measure => simp [intOf]
        · have hst := pb_step (c := d3) (r := [d0, d1, d2, d3].drop (3 + 1) ++ R) hr
          clear hr
          by_cases hk2 : 3 ≤ k
          · have hpl := pb_len (n + 3) d3
            have hd : d3 = dig ((v) % 64) := by rw [e3, if_pos hk2]
            have m : bits .and .i64 (v) 63 = (v) % 64 := and_i64_63 _ (by omega) (by omega)
            have x : (⟨#[65, 66, 67, 68, 69, 70, 71, 72, 73, 74, 75, 76, 77, 78, 79, 80, 81, 82, 83, 84, 85, 86, 87, 88, 89, 90, 97, 98, 99, 100, 101, 102, 103, 104, 105, 106, 107, 108, 109, 110, 111, 112, 113, 114, 115, 116, 117, 118, 119, 120, 121, 122, 48, 49, 50, 51, 52, 53, 54, 55, 56, 57, 43, 47]⟩ : ByteArray)[((v) % 64).toNat]'(by show ((v) % 64).toNat < 64; omega) = d3 := by rw [digits_at _ (by omega), hd, Int.toNat_of_nonneg (by omega)]
            clear hd e0 e1 e2 e3
            go_wp2_with (go_at_call 24; refine (put_any _ _ _ _ _ d3 _ hBi hgi (by omega) (by omega) (by omega) (by omega) (by omega)).mono ?_; rintro e w' ⟨rfl, hB1, hg1, hb1⟩)
            go_roundw
            case rel => exact ⟨3 + 1, _, by go_num, by omega, hB1, hg1, hbi.trans hb1, by rw [List.length_append]; omega, hst⟩
            case measure => simp [intOf]
          · have hd : d3 = 61 := by rw [e3, if_neg hk2]
            have hpl := pb_len (n + 3) 61
            rw [hd] at hst
            clear hd e0 e1 e2 e3
            go_wp2_with (go_at_call 24; refine (put_any _ _ _ _ _ 61 _ hBi hgi (by omega) (by omega) (by omega) (by omega) (by omega)).mono ?_; rintro e w' ⟨rfl, hB1, hg1, hb1⟩)
            go_roundw
            case rel => exact ⟨3 + 1, _, by go_num, by omega, hB1, hg1, hbi.trans hb1, by rw [List.length_append]; omega, hst⟩
            case measure => simp [intOf]
        · have hnext : B64Is s (S.extract k S.size) ac (n + 4) := by
            unfold B64Is
            have e := hr.out
            rw [HR.out] at e
            exact e
          have hke := HK.out
          have hext : (S.extract k S.size).size = S.size - k := ntl_size S k
          go_wp2
          rw [show (min 3 (S.size : Int)).toNat = k by omega]
          go_roundw
          case rel => exact ⟨_, ac, n + 4, rfl, hBi, hgi, hbi, by rw [hext]; omega, by omega, hnext⟩
          case measure => show (S.extract k S.size).size < S.size; omega
    · have hnil := str_nil (S := S) (by omega)
      have e : acc ++ pbR n [] = b64R s.data.toList := by
        have := hrel
        unfold B64Is at this
        rw [tl_end S 0 (by omega), tl_zero, ← b64R_pbR] at this
        exact this
      have htm : Int.tmod (n : Int) 76 = (n : Int) % 76 := Int.tmod_eq_emod_of_nonneg (by omega)
      have hc1 := cell_of_one hg
      clear hrel
      by_cases hz : n % 76 = 0
      · have hq : ((n : Int) % 76 != 0) = false := by rw [bne_eq_false_iff_eq]; omega
        rw [pbR, if_pos hz, List.append_nil] at e
        have HE := Lib.hid e
        clear e hz
        go_wp2_with (go_at_call 27; refine (bstr _ _ _ _ hB (by omega)).mono ?_; rintro e w' ⟨rfl, -, hb2, -⟩)
        go_ret
        rw [← HE.out]
        exact ⟨rfl, hbel.trans hb2⟩
      · have hq : ((n : Int) % 76 != 0) = true := by rw [bne_iff_ne]; omega
        rw [pbR, if_neg hz] at e
        have HE := Lib.hid e
        clear e hz
        go_wp2_with (first
          | (go_at_call 26; refine (ws _ _ _ _ _ hB (by show acc.length + 2 ≤ _; omega) (by omega)).mono ?_; rintro e w' ⟨rfl, hB1, hb1, -⟩; have hz1 := hb1.size)
          | (go_at_call 27; refine (bstr _ _ _ _ hB1 (by omega)).mono ?_; rintro e w' ⟨rfl, -, hb2, -⟩))
        go_ret
        rw [← HE.out]
        exact ⟨rfl, (hbel.trans hb1).trans hb2⟩
end Go.Proofs.YtgkbjgmcgbnnaaaDoor
