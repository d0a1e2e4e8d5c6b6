/- Walks of the reference pouchref30: mark. -/
import Derived.Test.YtmpggcjfmcigmaaDoorR30c
namespace Go.Proofs.YtmpggcjfmcigmaaDoor
open Go.RowKit Pk U8 Su Fo

theorem suf_tl {s : ByteArray} {k : Nat} {t : List UInt8} (h : t <:+ tl s k) : t = tl s (s.size - t.length) := by
  have h1 : t <:+ s.data.toList := h.trans (List.drop_suffix _ _)
  have := List.suffix_iff_eq_drop.1 h1
  exact this
theorem free_suf (l : List UInt8) : free l <:+ l := List.dropWhile_suffix _
theorem tl_free (s : ByteArray) (k : Nat) : free (tl s k) = tl s (spaceAt s k) := suf_tl (free_suf _)
theorem spaceAt_le (s : ByteArray) (k : Nat) : spaceAt s k ≤ s.size := by unfold spaceAt; omega
theorem bin_suf : ∀ (l t : List UInt8), blobIn l = some t → t <:+ l
  | [], _, h => by cases h
  | c :: r, t, h => by
    unfold blobIn at h
    split at h
    · injection h with h; subst h; exact (free_suf r).trans (List.suffix_cons _ _)
    · split at h
      · cases h
      · exact (bin_suf r t h).trans (List.suffix_cons _ _)
theorem blob_suf {l t : List UInt8} (h : blob l = some t) : t <:+ l := by
  cases l with
  | nil => cases h
  | cons c r =>
    rw [show blob (c :: r) = if c = 91 then blobIn r else none from rfl] at h
    split at h
    · exact (bin_suf r t h).trans (List.suffix_cons _ _)
    · cases h
/-- where the blob at an index ends, in the reference's two ways -/
theorem blob_ix2 (s : ByteArray) (k : Nat) : (blob (tl s k) = none ∧ ixO s (blob (tl s k)) = -1) ∨ ∃ j : Nat, j ≤ s.size ∧ blob (tl s k) = some (tl s j) ∧ ixO s (blob (tl s k)) = j := by
  cases h : blob (tl s k) with
  | none => exact Or.inl ⟨rfl, rfl⟩
  | some t => exact Or.inr ⟨s.size - t.length, by omega, congrArg some (suf_tl (blob_suf h)), rfl⟩
def mkF : List (List UInt8) → List UInt8 → Option (List UInt8)
  | [], _ => none
  | m :: ms, t => match tryMark m t with
    | some x => some x
    | none => mkF ms t
theorem answer_mk (l : List UInt8) : answer l = mkF [re, fwd, fw] (skip l) := by
  unfold answer mkF
  cases tryMark re (skip l) with
  | some x => rfl
  | none =>
    unfold mkF
    cases tryMark fwd (skip l) with
    | some x => rfl
    | none =>
      unfold mkF
      cases tryMark fw (skip l) with
      | some x => rfl
      | none => rfl
theorem beg_st {s M : ByteArray} {k : Nat} (hk : k ≤ s.size) (h : begB s k M = true) : st M.data.toList (tl s k) = some (tl s (k + M.size)) ∧ k + M.size ≤ s.size := by
  unfold begB at h
  cases hst : st M.data.toList (tl s k) with
  | none => rw [hst] at h; cases h
  | some r =>
    obtain ⟨h1, h2, h3⟩ := st_some hst
    have e2 : M.data.toList.length = M.size := rfl
    rw [tl_length] at h3
    exact ⟨by rw [h2, tl_drop, e2], by omega⟩
theorem beg_no {s M : ByteArray} {k : Nat} (h : begB s k M = false) : tryMark M.data.toList (tl s k) = none := by
  unfold begB at h
  cases hst : st M.data.toList (tl s k) with
  | none => unfold tryMark; rw [hst]
  | some r => rw [hst] at h; cases h
theorem tm_at {s M : ByteArray} {k t2 : Nat} (hk : k ≤ s.size) (h : begB s k M = true) (hg : (blob (tl s (spaceAt s (k + M.size)))).getD (tl s (spaceAt s (k + M.size))) = tl s t2) :
    (∀ h2 : t2 < s.size, s[t2] = 58 → tryMark M.data.toList (tl s k) = some (free (tl s (t2 + 1)))) ∧ (∀ h2 : t2 < s.size, ¬ s[t2] = 58 → tryMark M.data.toList (tl s k) = none) ∧ (¬ t2 < s.size → tryMark M.data.toList (tl s k) = none) := by
  obtain ⟨e1, -⟩ := beg_st hk h
  unfold tryMark
  rw [e1]
  simp only
  rw [tl_free, hg]
  refine ⟨fun h2 hc => ?_, fun h2 hc => ?_, fun h2 => ?_⟩
  · rw [tl_cons s t2 h2, hc]
    split
    · rename_i q heq; injection heq with _ e; rw [e]
    · rename_i hne; exact absurd rfl (hne _)
  · rw [tl_cons s t2 h2]
    split
    · rename_i q heq; injection heq with e _; exact absurd e hc
    · rfl
  · rw [tl_end s t2 (by omega)]
def nm : Nat → ByteArray
  | 0 => ⟨#[114, 101]⟩
  | 1 => ⟨#[102, 119, 100]⟩
  | _ => ⟨#[102, 119]⟩
def nmL (i : Nat) : List (List UInt8) := [re, fwd, fw].drop i
theorem nmL_cons : ∀ i, i < 3 → nmL i = (nm i).data.toList :: nmL (i + 1)
  | 0, _ => rfl
  | 1, _ => rfl
  | 2, _ => rfl
  | n + 3, h => absurd h (by omega)
theorem nm_size : ∀ i, i < 3 → (nm i).size ≤ 3
  | 0, _ => by decide
  | 1, _ => by decide
  | 2, _ => by decide
  | n + 3, h => absurd h (by omega)
theorem mkF_none {M : List UInt8} {ms : List (List UInt8)} {t : List UInt8} (h : tryMark M t = none) : mkF (M :: ms) t = mkF ms t := by
  rw [mkF, h]
theorem mkF_some {M : List UInt8} {ms : List (List UInt8)} {t x : List UInt8} (h : tryMark M t = some x) : mkF (M :: ms) t = some x := by
  rw [mkF, h]
theorem spacesR_add (s : ByteArray) (k n : Nat) (w : World) (hs : s.size ≤ 10000000) (ha : k + n ≤ s.size) :
    Calls Tryd.prog 76 #[.string s, .int .i64 ((k : Int) + n)] w fun e w' => e = .returned (.int .i64 (spaceAt s (k + n))) ∧ w = w' := spacesR_any s (k + n) w hs ha
set_option maxHeartbeats 2000000 in
set_option maxRecDepth 100000 in
theorem markR_any (s : ByteArray) (k : Nat) (w : World) (hs : s.size ≤ 10000000) (hk : k ≤ s.size) :
    Calls Tryd.prog 58 #[.string s, .int .i64 k] w fun e w' => e = .returned (.int .i64 (ixO s (mkF [re, fwd, fw] (tl s k)))) ∧ Below w.heap.size w w' := by
  obtain ⟨X, hX⟩ : ∃ X, X = ixO s (mkF [re, fwd, fw] (tl s k)) := ⟨_, rfl⟩
  have h0 : Hid (ixO s (mkF (nmL 0) (tl s k)) = X) := hX.symm
  rw [← hX]
  clear hX
  go_enter Tryd.func58, Tryd.ntmps58
  go_wp2
  go_loopw [6] (fun i wr => ∃ (j : Nat), i = .int .i64 j ∧ j ≤ 3 ∧ (∀ q, q < 3 → wr.cell? ⟨w.heap.size, q, none⟩ = some (.string (nm q))) ∧ w.heap.size < wr.heap.size ∧ Below w.heap.size w wr ∧ Hid (ixO s (mkF (nmL j) (tl s k)) = X)) (fun i _ => 3 - (intOf i).toNat)
  case atStart =>
    refine ⟨0, by first | rfl | trivial, by omega, fun q hq => ?_, by simp, (Below.refl _ _).alloc (Nat.le_refl _) _, h0⟩
    match q, hq with
    | 0, _ => simp [nm]
    | 1, _ => simp [nm]
    | 2, _ => simp [nm]
  case round =>
    obtain ⟨j, rfl, hj, hcell, hgz, hbel, hrel⟩ := hrel
    by_cases hlt : j < 3
    · have hN := nm_size j hlt
      have hcj := hcell j hlt
      have hL := nmL_cons j hlt
      have HC := Lib.hid hcell
      clear hcell
      have hB := fun w' => beginsR_any s k (nm j) w' hs hk (by omega)
      generalize nm j = N at hN hcj hL hB
      cases hb : begB s k N with
      | false =>
        have hd : Hid (ixO s (mkF (nmL (j + 1)) (tl s k)) = X) := by
          show _ = _
          rw [← hrel.out, hL, mkF_none (beg_no hb)]
        rw [hb] at hB
        have HB := Lib.hid hB
        clear hB hrel hL hb
        go_wp2_with (go_at_call 57; (with_reducible refine (HB.out _).mono ?_); rintro e w1 ⟨rfl, hb1⟩)
        go_roundw
        case rel => exact ⟨j + 1, by go_num, by omega, fun q hq => cell_later hb1 (HC.out q hq), by have := hb1.size; omega, hbel.trans (hb1.mono (by omega)), hd⟩
        case measure => simp [intOf]; omega
      | true =>
        obtain ⟨-, hle⟩ := beg_st hk hb
        obtain ⟨t1, ht1⟩ : ∃ t1, t1 = spaceAt s (k + N.size) := ⟨_, rfl⟩
        have ht1s : t1 ≤ s.size := by rw [ht1]; exact spaceAt_le _ _
        have hS := fun w' => spacesR_add s k N.size w' hs hle
        have hQ := fun w' => blobR_any s t1 w' hs ht1s
        have htm := fun t2 (hg : (blob (tl s t1)).getD (tl s t1) = tl s t2) => tm_at (t2 := t2) hk hb (by rw [← ht1]; exact hg)
        rw [← ht1] at hS
        rw [hb] at hB
        have HB := Lib.hid hB
        have HS := Lib.hid hS
        have HREL := Lib.hid hrel
        clear hB hS hrel ht1 hb
        rcases blob_ix2 s t1 with ⟨hx, hx'⟩ | ⟨t2, ht2, hx, hx'⟩
        · have htm := htm t1 (by rw [hx]; rfl)
          rw [hx'] at hQ
          have HQ := Lib.hid hQ
          clear hx hx' hQ
          by_cases h2 : t1 < s.size
          · by_cases h58 : s[t1] = 58
            · have hd : Hid ((spaceAt s (t1 + 1) : Int) = X) := by
                show _ = _
                rw [← HREL.out, hL, mkF_some (htm.1 h2 h58)]; rfl
              have q1 : ((s[t1].toNat : Int) == 58) = true := by rw [h58]; rfl
              have HS2 := Lib.hid (fun w' => spacesR_succ s t1 w' hs h2)
              clear htm h58 HREL hL
              go_wp2_with (first
                | (go_at_call 57; (with_reducible refine (HB.out _).mono ?_); rintro e w1 ⟨rfl, hb1⟩; have hcj1 := cell_later hb1 hcj)
                | (go_at_call 76; (with_reducible refine (HS.out _).mono ?_); rintro e w' ⟨rfl, rfl⟩)
                | (go_at_call 76; (with_reducible refine (HS2.out _).mono ?_); rintro e w' ⟨rfl, rfl⟩)
                | (go_at_call 59; (with_reducible refine (HQ.out _).mono ?_); rintro e w' ⟨rfl, rfl⟩))
              go_ret
              exact ⟨congrArg (fun l : Int => Ending.returned (.int .i64 l)) hd.out, hbel.trans (hb1.mono (by omega))⟩
            · have hd : Hid (ixO s (mkF (nmL (j + 1)) (tl s k)) = X) := by
                show _ = _
                rw [← HREL.out, hL, mkF_none (htm.2.1 h2 h58)]
              have q1 : ((s[t1].toNat : Int) == 58) = false := beq_eq_false_iff_ne.2 (by have := u8_ne (n := 58) h58 (by omega); omega)
              clear htm h58 HREL hL
              go_wp2_with (first
                | (go_at_call 57; (with_reducible refine (HB.out _).mono ?_); rintro e w1 ⟨rfl, hb1⟩; have hcj1 := cell_later hb1 hcj)
                | (go_at_call 76; (with_reducible refine (HS.out _).mono ?_); rintro e w' ⟨rfl, rfl⟩)
                | (go_at_call 59; (with_reducible refine (HQ.out _).mono ?_); rintro e w' ⟨rfl, rfl⟩))
              go_roundw
              case rel => exact ⟨j + 1, by go_num, by omega, fun q hq => cell_later hb1 (HC.out q hq), by have := hb1.size; omega, hbel.trans (hb1.mono (by omega)), hd⟩
              case measure => simp [intOf]; omega
          · have hd : Hid (ixO s (mkF (nmL (j + 1)) (tl s k)) = X) := by
              show _ = _
              rw [← HREL.out, hL, mkF_none (htm.2.2 h2)]
            clear htm HREL hL
            go_wp2_with (first
              | (go_at_call 57; (with_reducible refine (HB.out _).mono ?_); rintro e w1 ⟨rfl, hb1⟩; have hcj1 := cell_later hb1 hcj)
              | (go_at_call 76; (with_reducible refine (HS.out _).mono ?_); rintro e w' ⟨rfl, rfl⟩)
              | (go_at_call 59; (with_reducible refine (HQ.out _).mono ?_); rintro e w' ⟨rfl, rfl⟩))
            go_roundw
            case rel => exact ⟨j + 1, by go_num, by omega, fun q hq => cell_later hb1 (HC.out q hq), by have := hb1.size; omega, hbel.trans (hb1.mono (by omega)), hd⟩
            case measure => simp [intOf]; omega
        · have htm := htm t2 (by rw [hx]; rfl)
          rw [hx'] at hQ
          have HQ := Lib.hid hQ
          clear hx hx' hQ
          by_cases h2 : t2 < s.size
          · by_cases h58 : s[t2] = 58
            · have hd : Hid ((spaceAt s (t2 + 1) : Int) = X) := by
                show _ = _
                rw [← HREL.out, hL, mkF_some (htm.1 h2 h58)]; rfl
              have q1 : ((s[t2].toNat : Int) == 58) = true := by rw [h58]; rfl
              have HS2 := Lib.hid (fun w' => spacesR_succ s t2 w' hs h2)
              clear htm h58 HREL hL
              go_wp2_with (first
                | (go_at_call 57; (with_reducible refine (HB.out _).mono ?_); rintro e w1 ⟨rfl, hb1⟩; have hcj1 := cell_later hb1 hcj)
                | (go_at_call 76; (with_reducible refine (HS.out _).mono ?_); rintro e w' ⟨rfl, rfl⟩)
                | (go_at_call 76; (with_reducible refine (HS2.out _).mono ?_); rintro e w' ⟨rfl, rfl⟩)
                | (go_at_call 59; (with_reducible refine (HQ.out _).mono ?_); rintro e w' ⟨rfl, rfl⟩))
              go_ret
              exact ⟨congrArg (fun l : Int => Ending.returned (.int .i64 l)) hd.out, hbel.trans (hb1.mono (by omega))⟩
            · have hd : Hid (ixO s (mkF (nmL (j + 1)) (tl s k)) = X) := by
                show _ = _
                rw [← HREL.out, hL, mkF_none (htm.2.1 h2 h58)]
              have q1 : ((s[t2].toNat : Int) == 58) = false := beq_eq_false_iff_ne.2 (by have := u8_ne (n := 58) h58 (by omega); omega)
              clear htm h58 HREL hL
              go_wp2_with (first
                | (go_at_call 57; (with_reducible refine (HB.out _).mono ?_); rintro e w1 ⟨rfl, hb1⟩; have hcj1 := cell_later hb1 hcj)
                | (go_at_call 76; (with_reducible refine (HS.out _).mono ?_); rintro e w' ⟨rfl, rfl⟩)
                | (go_at_call 59; (with_reducible refine (HQ.out _).mono ?_); rintro e w' ⟨rfl, rfl⟩))
              go_roundw
              case rel => exact ⟨j + 1, by go_num, by omega, fun q hq => cell_later hb1 (HC.out q hq), by have := hb1.size; omega, hbel.trans (hb1.mono (by omega)), hd⟩
              case measure => simp [intOf]; omega
          · have hd : Hid (ixO s (mkF (nmL (j + 1)) (tl s k)) = X) := by
              show _ = _
              rw [← HREL.out, hL, mkF_none (htm.2.2 h2)]
            clear htm HREL hL
            go_wp2_with (first
              | (go_at_call 57; (with_reducible refine (HB.out _).mono ?_); rintro e w1 ⟨rfl, hb1⟩; have hcj1 := cell_later hb1 hcj)
              | (go_at_call 76; (with_reducible refine (HS.out _).mono ?_); rintro e w' ⟨rfl, rfl⟩)
              | (go_at_call 59; (with_reducible refine (HQ.out _).mono ?_); rintro e w' ⟨rfl, rfl⟩))
            go_roundw
            case rel => exact ⟨j + 1, by go_num, by omega, fun q hq => cell_later hb1 (HC.out q hq), by have := hb1.size; omega, hbel.trans (hb1.mono (by omega)), hd⟩
            case measure => simp [intOf]; omega
    · have he : X = -1 := by
        have : j = 3 := by omega
        subst this
        rw [← hrel.out]; rfl
      clear hrel
      go_wp2
      go_ret
      exact ⟨congrArg (fun l : Int => Ending.returned (.int .i64 l)) he.symm, hbel⟩
end Go.Proofs.YtmpggcjfmcigmaaDoor
