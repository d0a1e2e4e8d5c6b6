/- Walks: dates: zone; the closure of Read. -/
import Derived.Test.YtlgnhngbmciaoaaDoorDt5
namespace Go.Proofs.YtlgnhngbmciaoaaDoor
open Go.RowKit Pk Dt

def kvZ : List (ByteArray × Value) := [(⟨#[101, 100, 116]⟩, .int .i64 (-4)), (⟨#[101, 115, 116]⟩, .int .i64 (-5)), (⟨#[99, 100, 116]⟩, .int .i64 (-5)), (⟨#[99, 115, 116]⟩, .int .i64 (-6)), (⟨#[109, 100, 116]⟩, .int .i64 (-6)), (⟨#[109, 115, 116]⟩, .int .i64 (-7)), (⟨#[112, 100, 116]⟩, .int .i64 (-7)), (⟨#[112, 115, 116]⟩, .int .i64 (-8))]
theorem ba_eq (s : ByteArray) (k : List UInt8) : ((s == (⟨k.toArray⟩ : ByteArray)) = true) = (s.data.toList = k) := by
  show ((s.data == k.toArray) = true) = _
  rw [beq_iff_eq, eq_iff_iff]
  constructor
  · intro h; rw [h]
  · intro h; rw [← h]
theorem get_known (s : ByteArray) : mapGet s (.int .i64 0) kvZ = .int .i64 (knownL s.data.toList) := by
  have e1 := ba_eq s [101, 100, 116]
  have e2 := ba_eq s [101, 115, 116]
  have e3 := ba_eq s [99, 100, 116]
  have e4 := ba_eq s [99, 115, 116]
  have e5 := ba_eq s [109, 100, 116]
  have e6 := ba_eq s [109, 115, 116]
  have e7 := ba_eq s [112, 100, 116]
  have e8 := ba_eq s [112, 115, 116]
  unfold kvZ knownL
  simp only [mapGet, e1, e2, e3, e4, e5, e6, e7, e8, apply_ite (Value.int .i64)]
theorem known_rng (l : List UInt8) : -8 ≤ knownL l ∧ knownL l ≤ 0 := by
  unfold knownL
  repeat (split; omega)
  omega
theorem zeroI (w : World) : (zeroValue 3).run Tryd.prog w = .ok (.int .i64 0) w := by kernel_rfl
structure MZ (w W : World) (r : Nat) (kvs : List (ByteArray × Value)) : Prop where
  map : mapIs W r kvs
  bel : Below w.heap.size w W
  hr : w.heap.size ≤ r
theorem MZ.step {w W W' : World} {r : Nat} {kvs kvs' : List (ByteArray × Value)} (h : MZ w W r kvs) (hm : mapIs W' r kvs') (hg : W.grownBy W' (some r)) : MZ w W' r kvs' :=
  ⟨hm, Below_map h.bel h.hr hg h.bel.size, h.hr⟩
theorem MZ.start {w W : World} (hb : Below w.heap.size w W) : MZ w (W.alloc (.map #[] 0)) W.heap.size [] :=
  ⟨mapIs_new W, hb.alloc hb.size _, hb.size⟩
theorem az_step {s : ByteArray} {k : Nat} {X : Bool} (h : Hid ((tl s k).all (fun c => decide (97 ≤ c.toNat) && decide (c.toNat ≤ 122)) = X)) (hk : k < s.size) :
    ((97 ≤ s[k].toNat ∧ s[k].toNat ≤ 122) → Hid ((tl s (k + 1)).all (fun c => decide (97 ≤ c.toNat) && decide (c.toNat ≤ 122)) = X)) ∧ (¬ (97 ≤ s[k].toNat ∧ s[k].toNat ≤ 122) → X = false) := by
  have e := h.out
  rw [tl_cons s k hk, List.all_cons] at e
  refine ⟨fun h1 => ?_, fun h1 => ?_⟩
  · rw [decide_eq_true h1.1, decide_eq_true h1.2] at e; exact e
  · rw [← e]
    have : (decide (97 ≤ s[k].toNat) && decide (s[k].toNat ≤ 122)) = false := by
      rw [Bool.and_eq_false_iff, decide_eq_false_iff_not, decide_eq_false_iff_not]; omega
    rw [this]; rfl
theorem az_end {s : ByteArray} {k : Nat} {X : Bool} (h : Hid ((tl s k).all (fun c => decide (97 ≤ c.toNat) && decide (c.toNat ≤ 122)) = X)) (hk : ¬ k < s.size) : X = true := by
  have e := h.out
  rw [tl_end s k (by omega)] at e
  exact e.symm
/-- a zone that is no sign and four digits -/
def wordZ (s : List UInt8) : Int × Bool := if (s.all fun c => decide (97 ≤ c.toNat) && decide (c.toNat ≤ 122)) = true then (60 * knownL s, decide (s.length ≤ 5)) else (0, false)
set_option maxHeartbeats 4000000 in
set_option maxRecDepth 100000 in
theorem zoneW_any (s : ByteArray) (w : World) (hs : s.size ≤ 100000000)
    (hq : ((s.size : Int) == 5) = false ∨ (s.size = 5 ∧ ∀ h : 0 < s.size, ((s[0].toNat : Int) == 43) = false ∧ ((s[0].toNat : Int) == 45) = false)) : Calls Tryd.prog 27 #[.string s] w (PairD (wordZ s.data.toList) w) := by
  obtain ⟨cp, w1, hcv, hrow, hb1, hz1⟩ := conv_row (P := Tryd.prog) w 9 56 5 s Tryd.underlying9 Tryd.underlying56 Tryd.underlying5
  have HG := Lib.hid (get_known s)
  obtain ⟨n0, n1⟩ := known_rng s.data.toList
  unfold wordZ
  rw [dataL]
  have hst : Hid ((tl s 0).all (fun c => decide (97 ≤ c.toNat) && decide (c.toNat ≤ 122)) = s.data.toList.all (fun c => decide (97 ≤ c.toNat) && decide (c.toNat ≤ 122))) := by rw [tl_zero]; exact Lib.hid rfl
  generalize knownL s.data.toList = nk at *
  generalize s.data.toList.all (fun c => decide (97 ≤ c.toNat) && decide (c.toNat ≤ 122)) = X at *
  have HR : Hid ((if X = true then ((60 * nk : Int), decide (s.size ≤ 5)) else (0, false)) = (if X = true then ((60 * nk : Int), decide (s.size ≤ 5)) else (0, false))) := rfl
  generalize hY : (if X = true then ((60 * nk : Int), decide (s.size ≤ 5)) else (0, false)) = Y at HR ⊢
  clear HR
  have HR := Lib.hid hY.symm
  clear hY
  unfold PairD
  rcases hq with q | ⟨h5, q⟩
  · skip
    go_enter Tryd.func27, Tryd.ntmps27
    go_wp2
    clear hcv
    go_loop [62] (fun iv => ∃ k : Nat, iv = .int .i64 k ∧ k ≤ s.size ∧ Hid ((tl s k).all (fun c => decide (97 ≤ c.toNat) && decide (c.toNat ≤ 122)) = X)) (fun iv => s.size - (intOf iv).toNat)
    case atStart => exact ⟨0, by first | rfl | trivial, by omega, hst⟩
    case round =>
      obtain ⟨k, rfl, hk, hrel⟩ := hrel
      by_cases hlt : k < s.size
      · have hc : w1.cell? ⟨w.heap.size, k, none⟩ = some (.int .u8 s[k].toNat) := rowF_cell hrow k hlt
        obtain ⟨s1, s2⟩ := az_step hrel hlt
        have hcb := s[k].toNat_lt
        by_cases g1 : s[k].toNat < 97
        · have hX := Lib.hid (s2 (by omega))
          clear s1 s2 hrel
          go_wp2
          go_ret2
          rw [HR.out, hX.out]
          exact ⟨rfl, hb1⟩
        · by_cases g2 : 122 < s[k].toNat
          · have hX := Lib.hid (s2 (by omega))
            clear s1 s2 hrel
            go_wp2
            go_ret2
            rw [HR.out, hX.out]
            exact ⟨rfl, hb1⟩
          · have hnx := s1 (by omega)
            clear s1 s2 hrel
            go_wp2
            go_round
            case rel => exact ⟨k + 1, by go_num, by omega, hnx⟩
            case measure => simp [intOf]; omega
      · have hX := Lib.hid (az_end hrel hlt)
        have hp := MZ.start hb1
        have hmm := @run_makeMap Tryd.prog
        clear hrel
        go_wp2_with (refine wpList_insert_map _ rfl (.tmp 73) _ _ _ rfl _ _ Tryd.underlying69 Tryd.underlying9 _ _ rfl hp.map _ rfl (by kernel_rfl) ?_; intro w4 hm4 hg4; have hp := hp.step hm4 hg4; clear hm4 hg4)
        have hlk : (Instr.lookup 69 (.map (some w1.heap.size)) (.string s) false).run Tryd.prog _ = .ok _ _ := (run_lookup_map (P := Tryd.prog) hp.map Tryd.underlying69 Tryd.underlying9 s (.int .i64 0) (zeroI _)).trans (congrArg (fun v => Result.ok v _) HG.out)
        rw [hlk]
        clear hlk
        go_wp2
        go_ret2
        rw [HR.out, hX.out]
        exact ⟨by first | rfl | (simp; done) | (simp; omega), hp.bel⟩
  · have q0 : ((s.size : Int) == 5) = true := beq_iff_eq.2 (by omega)
    obtain ⟨q1, q2⟩ := q (by omega)
    have h5b : 0 < s.size := by omega
    have h5c : s.size ≤ 5 := by omega
    have Q := Lib.hid h5
    clear q
    go_enter Tryd.func27, Tryd.ntmps27
    go_wp2
    clear hcv
    go_loop [62] (fun iv => ∃ k : Nat, iv = .int .i64 k ∧ k ≤ s.size ∧ Hid ((tl s k).all (fun c => decide (97 ≤ c.toNat) && decide (c.toNat ≤ 122)) = X)) (fun iv => s.size - (intOf iv).toNat)
    case atStart => exact ⟨0, by first | rfl | trivial, by omega, hst⟩
    case round =>
      obtain ⟨k, rfl, hk, hrel⟩ := hrel
      by_cases hlt : k < s.size
      · have hc : w1.cell? ⟨w.heap.size, k, none⟩ = some (.int .u8 s[k].toNat) := rowF_cell hrow k hlt
        obtain ⟨s1, s2⟩ := az_step hrel hlt
        have hcb := s[k].toNat_lt
        by_cases g1 : s[k].toNat < 97
        · have hX := Lib.hid (s2 (by omega))
          clear s1 s2 hrel
          go_wp2
          go_ret2
          rw [HR.out, hX.out]
          exact ⟨rfl, hb1⟩
        · by_cases g2 : 122 < s[k].toNat
          · have hX := Lib.hid (s2 (by omega))
            clear s1 s2 hrel
            go_wp2
            go_ret2
            rw [HR.out, hX.out]
            exact ⟨rfl, hb1⟩
          · have hnx := s1 (by omega)
            clear s1 s2 hrel
            go_wp2
            go_round
            case rel => exact ⟨k + 1, by go_num, by omega, hnx⟩
            case measure => simp [intOf]; omega
      · have hX := Lib.hid (az_end hrel hlt)
        have hp := MZ.start hb1
        have hmm := @run_makeMap Tryd.prog
        clear hrel
        go_wp2_with (refine wpList_insert_map _ rfl (.tmp 73) _ _ _ rfl _ _ Tryd.underlying69 Tryd.underlying9 _ _ rfl hp.map _ rfl (by kernel_rfl) ?_; intro w4 hm4 hg4; have hp := hp.step hm4 hg4; clear hm4 hg4)
        have hlk : (Instr.lookup 69 (.map (some w1.heap.size)) (.string s) false).run Tryd.prog _ = .ok _ _ := (run_lookup_map (P := Tryd.prog) hp.map Tryd.underlying69 Tryd.underlying9 s (.int .i64 0) (zeroI _)).trans (congrArg (fun v => Result.ok v _) HG.out)
        rw [hlk]
        clear hlk
        go_wp2
        go_ret2
        rw [HR.out, hX.out]
        exact ⟨by first | rfl | (simp; done) | (simp; omega), hp.bel⟩
end Go.Proofs.YtlgnhngbmciaoaaDoor
