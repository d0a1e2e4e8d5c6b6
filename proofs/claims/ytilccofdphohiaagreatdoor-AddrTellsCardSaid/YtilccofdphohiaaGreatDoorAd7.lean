/- Walks: addr: Canon. -/
import Derived.Test.YtilccofdphohiaaGreatDoorAdW3
namespace Go.Proofs.YtilccofdphohiaaGreatDoor
open Go.RowKit Pk Ad Tk Fo

theorem midA_set {s : ByteArray} {acc : List UInt8} {k : Nat} (ha : acc.length = k) (hk : k < s.size) (y : UInt8) : (acc ++ tl s k).set k y = acc ++ [y] ++ tl s (k + 1) := by
  rw [tl_cons s k hk, List.set_append_right _ _ (by omega), ha, Nat.sub_self, List.set_cons_zero]
  simp
theorem midA_keep {s : ByteArray} {acc : List UInt8} {k : Nat} (hk : k < s.size) : acc ++ tl s k = acc ++ [s[k]] ++ tl s (k + 1) := by
  rw [tl_cons s k hk]; simp
theorem midA_len {s : ByteArray} {acc : List UInt8} {k : Nat} (ha : acc.length = k) (hk : k ≤ s.size) : (acc ++ tl s k).length = s.size := by
  rw [List.length_append, tl_length, ha]; omega
theorem midA_cell {w : World} {g : Nat} {e : TypeId} {s : ByteArray} {acc : List UInt8} {k : Nat} (h : rowF w g e (acc ++ tl s k)) (ha : acc.length = k) (hk : k < s.size) : w.cell? ⟨g, k, none⟩ = some (.int .u8 s[k].toNat) := by
  have := rowF_cell h k (by rw [midA_len ha (by omega)]; exact hk)
  rw [this]
  have e : (acc ++ tl s k)[k]? = some s[k] := by
    rw [List.getElem?_append_right (by omega), ha, Nat.sub_self, tl_cons s k hk]; rfl
  have e2 := (List.getElem?_eq_some_iff.1 e).2
  rw [e2]
theorem bslA : ByteSl Tryz.prog 45 5 where
  ht := Tryz.underlying45
  he := Tryz.underlying5
  hi := info_parts (show (Tryz.prog.info? 5).map (fun i => (i.zero, i.size, i.bytes)) = some (some (.int .u8 0), 1, 1) by kernel_rfl)
theorem b8_lowA {c : UInt8} (h1 : 65 ≤ c.toNat) (h2 : c.toNat ≤ 90) : b8 ((c.toNat : Int) + 32) = lowA c := by
  unfold lowA
  rw [if_pos ⟨h1, h2⟩]
  apply UInt8.toNat_inj.1
  have := b8_toNat ((c.toNat : Int) + 32) (by omega) (by omega)
  rw [UInt8.toNat_add]
  have e : (32 : UInt8).toNat = 32 := rfl
  rw [e]
  omega
theorem lowA_keep {c : UInt8} (h : ¬ (65 ≤ c.toNat ∧ c.toNat ≤ 90)) : lowA c = c := by unfold lowA; rw [if_neg h]
def CanIs (S : ByteArray) (X acc : List UInt8) (k : Nat) : Prop := acc.length = k ∧ acc ++ (tl S k).map lowA = X
theorem can_step {S : ByteArray} {X acc : List UInt8} {k : Nat} (h : CanIs S X acc k) (hk : k < S.size) : CanIs S X (acc ++ [lowA S[k]]) (k + 1) := by
  obtain ⟨h1, h2⟩ := h
  rw [tl_cons S k hk, List.map_cons] at h2
  exact ⟨by rw [List.length_append, h1]; rfl, by rw [← h2]; simp⟩
theorem can_end {S : ByteArray} {X acc : List UInt8} {k : Nat} (h : CanIs S X acc k) (hk : ¬ k < S.size) : acc = X := by
  obtain ⟨h1, h2⟩ := h
  rw [tl_end S k (by omega)] at h2
  rw [← h2]; simp
set_option maxHeartbeats 1000000 in
set_option maxRecDepth 100000 in
theorem canon_any (nm lo dm : ByteArray) (w : World) (h1 : lo.size ≤ 1000000) (h2 : dm.size ≤ 1000000) : Calls Tryz.prog 20 #[.agg #[.string nm, .string lo, .string dm]] w (StrIs (lo.data.toList ++ 64 :: dm.data.toList.map lowA) w) := by
  obtain ⟨S, hS⟩ : ∃ S, S = lo ++ ⟨#[64]⟩ ++ dm := ⟨_, rfl⟩
  have hSd : S.data.toList = lo.data.toList ++ 64 :: dm.data.toList := by
    rw [hS, ByteArray.data_append, ByteArray.data_append, Array.toList_append, Array.toList_append]; simp
  have hSz : S.size = lo.size + 1 + dm.size := by rw [hS, ByteArray.size_append, ByteArray.size_append]; rfl
  obtain ⟨X, hX⟩ : ∃ X, X = lo.data.toList ++ 64 :: dm.data.toList.map lowA := ⟨_, rfl⟩
  have hst : Hid (CanIs S X lo.data.toList lo.size) := by
    refine ⟨rfl, ?_⟩
    rw [hX]
    unfold tl
    rw [hSd]
    have : (lo.data.toList ++ 64 :: dm.data.toList).drop lo.size = 64 :: dm.data.toList := List.drop_left' rfl
    rw [this]; rfl
  have hs0 : S.data.toList = lo.data.toList ++ tl S lo.size := by
    unfold tl
    rw [hSd]
    have : (lo.data.toList ++ 64 :: dm.data.toList).drop lo.size = 64 :: dm.data.toList := List.drop_left' rfl
    rw [this]
  obtain ⟨w0, hw0⟩ : ∃ w0, w0 = w.alloc (.cells #[.string nm, .string lo, .string dm] 34) := ⟨_, rfl⟩
  have k0 : w0.heap[w.heap.size]? = some (.cells #[.string nm, .string lo, .string dm] 34 (0, 0)) := by rw [hw0]; exact heap_alloc_new w _
  have tb : Below w.heap.size w w0 := by rw [hw0]; exact (Below.refl _ _).alloc (Nat.le_refl _) _
  obtain ⟨cp, w1, hcv, hrow, hb1, hz1⟩ := conv_row (P := Tryz.prog) w0 9 45 5 S Tryz.underlying9 Tryz.underlying45 Tryz.underlying5
  rw [hs0] at hrow
  have kk := blkKept hb1 k0
  have hb0 : Below w.heap.size w w1 := tb.trans (hb1.mono tb.size)
  have c1 := Lib.cell_of_heap kk 1
  have hsz0 : w.heap.size ≤ w0.heap.size := tb.size
  have hcv : (convert 9 45 (.string (lo ++ ⟨#[64]⟩ ++ dm))).run Tryz.prog (w.alloc (.cells #[.string nm, .string lo, .string dm] 34)) = .ok (.slice (some ⟨w0.heap.size, 0, none⟩) S.size cp) w1 := by rw [← hS, ← hw0]; exact hcv
  rw [← hX]
  have HSz := Lib.hid hSz
  clear hX hSd hs0 k0 kk tb hb1 hS hw0 hSz
  generalize w0.heap.size = g at *
  have c1 : w1.cell? ⟨w.heap.size, 1, none⟩ = some (.string lo) := c1
  go_enter Tryz.func20, Tryz.ntmps20
  go_wp2
  go_loopw [4] (fun iv wr => ∃ (k : Nat) (acc : List UInt8), iv = .int .i64 k ∧ k ≤ S.size ∧ rowF wr g 5 (acc ++ tl S k) ∧ Below w.heap.size w wr ∧ Hid (CanIs S X acc k)) (fun iv _ => S.size - (intOf iv).toNat)
  case atStart => exact ⟨lo.size, lo.data.toList, by first | rfl | trivial, by have := HSz.out; omega, hrow, hb0, hst⟩
  case round =>
    clear hrow hcv hb0 hz1 c1
    obtain ⟨k, acc, rfl, hk, hrow, hbel, hrel⟩ := hrel
    have hS9 : S.size ≤ 3000000 := by have := HSz.out; omega
    by_cases hlt : k < S.size
    · have hl : acc.length = k := hrel.out.1
      have hc := midA_cell hrow hl hlt
      have hf := rowF_frozen hrow k (by rw [midA_len hl (by omega)]; exact hlt)
      have hnx := Lib.hid (can_step hrel.out hlt)
      have hkeep := hrow
      rw [midA_keep (acc := acc) hlt] at hkeep
      generalize S[k] = c at *
      have hcb := c.toNat_lt
      by_cases hcap : 65 ≤ c.toNat ∧ c.toNat ≤ 90
      · obtain ⟨a1, a2⟩ := hcap
        have hrow2 := rowF_stored hrow k ((c.toNat : Int) + 32) (by omega) (by omega)
        rw [midA_set hl hlt, b8_lowA a1 a2] at hrow2
        have hbel2 : Below w.heap.size w (wr.setCell ⟨g, k, none⟩ (.int .u8 ((c.toNat : Int) + 32))) := hbel.setCell hsz0 _
        clear hrow hrel hl hkeep
        go_wp2
        go_roundw
        case rel => exact ⟨k + 1, _, by go_num, by omega, hrow2, hbel2, hnx⟩
        case measure => simp [intOf]; omega
      · rw [lowA_keep hcap] at hnx
        clear hrow hrel hl
        by_cases a1 : 65 ≤ c.toNat
        · have a2 : ¬ c.toNat ≤ 90 := fun h => hcap ⟨a1, h⟩
          clear hcap
          go_wp2
          go_roundw
          case rel => exact ⟨k + 1, _, by go_num, by omega, hkeep, hbel, hnx⟩
          case measure => simp [intOf]; omega
        · clear hcap
          go_wp2
          go_roundw
          case rel => exact ⟨k + 1, _, by go_num, by omega, hkeep, hbel, hnx⟩
          case measure => simp [intOf]; omega
    · have hX := Lib.hid (can_end hrel.out hlt)
      have hl : (acc ++ tl S k).length = S.size := by
        rw [List.length_append, tl_length, hrel.out.1]; omega
      have hcv := run_string_row (P := Tryz.prog) (ts := 9) (n := S.size) (cap := cp) bslA Tryz.underlying9 hrow hl
      rw [tl_end S k (by omega), List.append_nil, hX.out] at hcv
      clear hrel hl hrow hX
      go_wp2
      go_ret
      exact ⟨rfl, hbel⟩
end Go.Proofs.YtilccofdphohiaaGreatDoor
