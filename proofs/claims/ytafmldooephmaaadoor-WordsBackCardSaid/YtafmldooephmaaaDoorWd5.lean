/- Walks: words: Decode. -/
import Derived.Test.YtafmldooephmaaaDoorWd4
import Derived.WalkMore
import Derived.Deep.LoopGhost
namespace Go.Proofs.YtafmldooephmaaaDoor
open Go.RowKit Pk U8 Cs Wd

/-- word at an offset -/
theorem word_at (s : ByteArray) (k : Nat) (w : World) (hw : Rdy w) (hs : s.size ≤ 3000000) (T : ByteArray) (n : Nat) (hT : T = ⟨(frontT (tl s k)).1.toArray⟩) (hn : n = (frontT (tl s k)).2) :
    Calls Tryd.prog 15 #[.string (s.extract k s.size)] w fun e w' => e = .returned (.tuple #[.string T, .int .i64 n]) ∧ Below w.heap.size w w' := by
  have h := word_any (s.extract k s.size) w hw (by rw [ByteArray.size_extract]; omega)
  unfold WordIs at h
  have e : (s.extract k s.size).data.toList = tl s k := by
    have := extC_tl s k
    rwa [tl_zero] at this
  rw [e, ← hT, ← hn] at h
  exact h
/-- where decoding goes on behind a word -/
def nextAt (s : ByteArray) (k : Nat) : Nat := s.size - (skipG (tl s k)).length
theorem skipG_tl (s : ByteArray) (k : Nat) (h : k ≤ s.size) : skipG (tl s k) = tl s (nextAt s k) ∧ k ≤ nextAt s k ∧ nextAt s k ≤ s.size := by
  have hle := skipG_le (tl s k)
  rw [tl_length] at hle
  have key : ∀ j, k ≤ j → j ≤ s.size → skipG (tl s k) = tl s j → j = nextAt s k := fun j h1 h2 h3 => by
    unfold nextAt
    rw [h3, tl_length]; omega
  have hd : ∀ (l : List UInt8) (p : UInt8 → Bool), ∃ j, j ≤ l.length ∧ l.dropWhile p = l.drop j := by
    intro l p
    induction l with
    | nil => exact ⟨0, by simp, rfl⟩
    | cons c l ih =>
      obtain ⟨j, h1, h2⟩ := ih
      cases hc : p c with
      | true => exact ⟨j + 1, by rw [List.length_cons]; omega, by rw [List.dropWhile_cons_of_pos hc, h2]; rfl⟩
      | false => exact ⟨0, by simp, by rw [List.dropWhile_cons_of_neg (by simp [hc])]; rfl⟩
  have hj : ∃ j, k ≤ j ∧ j ≤ s.size ∧ skipG (tl s k) = tl s j := by
    unfold skipG
    split
    · obtain ⟨j, h1, h2⟩ := hd (tl s k) Su.blk
      rw [tl_length] at h1
      exact ⟨k + j, by omega, by omega, by rw [h2, tl_drop]⟩
    · exact ⟨k, by omega, h, rfl⟩
  obtain ⟨j, h1, h2, h3⟩ := hj
  have := key j h1 h2 h3
  subst this
  exact ⟨h3, h1, h2⟩
/-- the blanks behind a word, seen so far -/
def BlkTo (s : ByteArray) (k q : Nat) : Prop := skipG (tl s k) = if 0 < (frontT ((tl s q).dropWhile Su.blk)).2 then (tl s q).dropWhile Su.blk else tl s k
theorem blkTo_start (s : ByteArray) (k : Nat) : Hid (BlkTo s k k) := by
  show BlkTo _ _ _
  unfold BlkTo skipG
  split <;> rfl
theorem blkTo_step {s : ByteArray} {k q : Nat} (h : Hid (BlkTo s k q)) (hq : q < s.size) (hb : Su.blk s[q] = true) : Hid (BlkTo s k (q + 1)) := by
  show BlkTo _ _ _
  have h := h.out
  unfold BlkTo at *
  rw [tl_cons s q hq, List.dropWhile_cons_of_pos hb] at h
  exact h
theorem blkTo_stop {s : ByteArray} {k q : Nat} (h : Hid (BlkTo s k q)) (hq : q < s.size) (hb : Su.blk s[q] = false) : skipG (tl s k) = if 0 < (frontT (tl s q)).2 then tl s q else tl s k := by
  have h := h.out
  unfold BlkTo at h
  rw [tl_cons s q hq, List.dropWhile_cons_of_neg (by simp [hb]), ← tl_cons s q hq] at h
  exact h
theorem blkTo_end {s : ByteArray} {k q : Nat} (h : Hid (BlkTo s k q)) (hq : ¬ q < s.size) : skipG (tl s k) = tl s k := by
  have h := h.out
  unfold BlkTo at h
  rw [tl_end s q (by omega)] at h
  exact h
theorem raw_step0 {s : ByteArray} {k : Nat} {acc X : List UInt8} (h : Hid (acc ++ rawL (tl s k) = X)) (hk : k < s.size) (hn : (frontT (tl s k)).2 = 0) : Hid (acc ++ [s[k]] ++ rawL (tl s (k + 1)) = X) := by
  have e := h.out
  rw [raw_cons (tl_ne hk)] at e
  unfold stepD at e
  rw [if_pos hn, tl_cons s k hk] at e
  show _ = _
  rw [← e]
  simp
theorem raw_step1 {s : ByteArray} {k n : Nat} {acc X : List UInt8} (h : Hid (acc ++ rawL (tl s k) = X)) (hk : k < s.size) (hn : n = (frontT (tl s k)).2) (hn0 : n ≠ 0) : Hid (acc ++ (frontT (tl s k)).1 ++ rawL (skipG (tl s (k + n))) = X) := by
  have e := h.out
  rw [raw_cons (tl_ne hk)] at e
  unfold stepD at e
  rw [if_neg (by omega), ← hn, tl_drop] at e
  show _ = _
  rw [← e]
  simp
theorem raw_end {s : ByteArray} {k : Nat} {acc X : List UInt8} (h : Hid (acc ++ rawL (tl s k) = X)) (hk : ¬ k < s.size) : acc = X := by
  have e := h.out
  rw [tl_end s k (by omega), raw_nil, List.append_nil] at e
  exact e
set_option maxHeartbeats 4000000 in
set_option maxRecDepth 100000 in
theorem decodeW_any (s : ByteArray) (w : World) (hw : Rdy w) (hs : s.size ≤ 700000) : Calls Tryd.prog 9 #[.string s] w fun e w' => e = .returned (.string ⟨(decW s.data.toList).toArray⟩) ∧ Below w.heap.size w w' := by
  have HW := Lib.hid hw
  have htl := Lib.hid (raw_length _ s.data.toList (Nat.le_refl _))
  clear hw
  go_enter Tryd.func9, Tryd.ntmps9
  go_wp2
  go_step3
  go_wp2
  go_step3
  go_wp2
  go_loopg [4] s.size (fun g iv wr => ∃ (k : Nat) (acc : List UInt8), k + g = s.size ∧ iv = .int .i64 k ∧ Bld wr w.heap.size w.heap.size acc ∧ Below w.heap.size w wr ∧ acc.length ≤ 4 * k ∧ Hid (acc ++ rawL (tl s k) = rawL (tl s 0)))
  case atStart => exact ⟨0, [], by omega, by first | rfl | trivial, Bld.new w, (Below.refl _ _).alloc (Nat.le_refl _) _, by simp, rfl⟩
  case round =>
    obtain ⟨k, acc, hkg, rfl, hB, hbel, hal, hrel⟩ := hrel
    have hk : k ≤ s.size := by omega
    have hsz := hbel.size
    by_cases hlt : k < s.size
    · have hle := frontT_le (tl s k)
      rw [tl_length] at hle
      have hlen := frontT_len (tl s k)
      have hst0 := raw_step0 hrel hlt
      have hst1 := fun n => raw_step1 (n := n) hrel hlt
      obtain ⟨T, hT, hTl, hTs⟩ := arr_ex (frontT (tl s k)).1
      obtain ⟨n, hn⟩ : ∃ n, n = (frontT (tl s k)).2 := ⟨_, rfl⟩
      have hwd := fun w' (hb : Below w.heap.size w w') => word_at s k w' (HW.out.later hb) (by omega) T n hT hn
      rw [← hn] at hle hlen hst0
      rw [← hTl] at hst1 hlen
      have hTn : T.size ≤ 4 * n := by have : T.data.toList.length = T.size := rfl; omega
      have HWD := Lib.hid hwd
      clear hwd hT hTl hTs hrel hlen
      by_cases h0 : n = 0
      · subst h0
        have hd := hst0 rfl
        clear hst0 hst1 hn
        go_wp2_with (first
          | (go_at_call 15; (with_reducible refine (HWD.out _ hbel).mono ?_); rintro e w1 ⟨rfl, hb1⟩; have hB1 := hB.below hb1 (Nat.le_refl _); have hbel1 := hbel.trans (hb1.mono hsz); have hsz1 := hbel1.size)
          | (go_at_call 16; (with_reducible refine (wbc _ _ _ _ _ hB1 (by omega) (by omega)).mono ?_); rintro e w2 ⟨rfl, hB2, hb2, -⟩))
        go_roundg (s.size - (k + 1))
        case rel => exact ⟨k + 1, _, by omega, by go_num, hB2, hbel1.trans hb2, by rw [List.length_append, List.length_singleton]; omega, hd⟩
        case measure => omega
      · have hd := hst1 n hn h0
        have q0 : ((n : Int) == 0) = false := beq_eq_false_iff_ne.2 (by omega)
        clear hst0 hst1 hn
        go_wp2_with (first
          | (go_at_call 15; (with_reducible refine (HWD.out _ hbel).mono ?_); rintro e w1 ⟨rfl, hb1⟩; have hB1 := hB.below hb1 (Nat.le_refl _); have hbel1 := hbel.trans (hb1.mono hsz); have hsz1 := hbel1.size)
          | (go_at_call 17; (with_reducible refine (ws _ _ _ _ _ hB1 (by omega) (by omega)).mono ?_); rintro e w2 ⟨rfl, hB2, hb2, -⟩; have hbel2 := hbel1.trans hb2; have hsz2 := hbel2.size))
        clear hB hbel hB1 hbel1 hb1 hb2 HWD hsz hsz1
        have hal2 : (acc ++ T.data.toList).length ≤ 4 * (k + n) := by
          have : T.data.toList.length = T.size := rfl
          rw [List.length_append]; omega
        generalize acc ++ T.data.toList = acc2 at hB2 hd hal2
        have hkn : k + n ≤ s.size := by omega
        have hn1 : 1 ≤ n := by omega
        go_loopg [4, 7] (s.size - (k + n)) (fun g2 av qv wy => ∃ (q : Nat), q + g2 = s.size ∧ k + n ≤ q ∧ av = .int .i64 ((k + n : Nat) : Int) ∧ qv = .int .i64 q ∧ wy = w2 ∧ Hid (BlkTo s (k + n) q))
        case atStart => exact ⟨k + n, by omega, by omega, by go_num, by go_num, rfl, blkTo_start _ _⟩
        case round =>
          obtain ⟨q, hqg, hkq, rfl, rfl, rfl, hbl⟩ := hrel
          by_cases hq : q < s.size
          · have hbk := wblank_any s[q]
            have hst := fun h => blkTo_step hbl hq h
            have hsp := fun h => blkTo_stop hbl hq h
            generalize hcq : s[q] = cq at hbk hst hsp
            have HBK := Lib.hid hbk
            clear hbk
            cases hb : Su.blk cq with
            | true =>
              have hd2 := hst hb
              rw [hb] at HBK
              clear hst hsp hbl
              go_wp2_with (go_at_call 18; (with_reducible refine (HBK.out _).mono ?_); rintro e w5 ⟨rfl, rfl⟩)
              go_roundg (s.size - (q + 1))
              case rel => exact ⟨q + 1, by omega, by omega, by go_num, by go_num, by first | rfl | trivial, hd2⟩
              case measure => omega
            | false =>
              have hd2 := hsp hb
              rw [hb] at HBK
              obtain ⟨T2, hT2, -, -⟩ := arr_ex (frontT (tl s q)).1
              obtain ⟨n2, hn2⟩ : ∃ n, n = (frontT (tl s q)).2 := ⟨_, rfl⟩
              have hwd2 := word_at s q _ (HW.out.later hbel2) (by omega) T2 n2 hT2 hn2
              rw [← hn2] at hd2
              have HWD2 := Lib.hid hwd2
              clear hwd2 hT2 hn2 hst hsp hbl
              by_cases h2 : 0 < n2
              · have q2 : decide ((0 : Int) < (n2 : Int)) = true := decide_eq_true (by omega)
                rw [if_pos h2] at hd2
                have hd3 := hd.out
                rw [hd2] at hd3
                have HD3 := Lib.hid hd3
                clear hd hd2 hd3
                go_wp2_with (first
                  | (go_at_call 18; (with_reducible refine (HBK.out _).mono ?_); rintro e w5 ⟨rfl, rfl⟩)
                  | (go_at_call 15; (with_reducible refine (HWD2.out).mono ?_); rintro e w6 ⟨rfl, hb6⟩; have hB6 := hB2.below hb6 (Nat.le_refl _); have hbel6 := hbel2.trans (hb6.mono hsz2)))
                go_roundg (s.size - q)
                case rel => exact ⟨q, acc2, by omega, by go_num, hB6, hbel6, by omega, HD3⟩
                case measure => omega
              · have q2 : decide ((0 : Int) < (n2 : Int)) = false := decide_eq_false (by omega)
                rw [if_neg h2] at hd2
                have hd3 := hd.out
                rw [hd2] at hd3
                have HD3 := Lib.hid hd3
                clear hd hd2 hd3
                go_wp2_with (first
                  | (go_at_call 18; (with_reducible refine (HBK.out _).mono ?_); rintro e w5 ⟨rfl, rfl⟩)
                  | (go_at_call 15; (with_reducible refine (HWD2.out).mono ?_); rintro e w6 ⟨rfl, hb6⟩; have hB6 := hB2.below hb6 (Nat.le_refl _); have hbel6 := hbel2.trans (hb6.mono hsz2)))
                go_roundg (s.size - (k + n))
                case rel => exact ⟨k + n, acc2, by omega, by go_num, hB6, hbel6, by omega, HD3⟩
                case measure => omega
          · have hd2 := blkTo_end hbl hq
            have hd3 := hd.out
            rw [hd2] at hd3
            have HD3 := Lib.hid hd3
            clear hd hd2 hd3
            go_wp2
            go_roundg (s.size - (k + n))
            case rel => exact ⟨k + n, acc2, by omega, by go_num, hB2, hbel2, by omega, HD3⟩
            case measure => omega
    · have he := raw_end hrel hlt
      rw [tl_zero] at he
      obtain ⟨P, hP, hPl, hPs⟩ := arr_ex (rawL s.data.toList)
      have hRP := fun w' (hb : Below w.heap.size w w') => repairP_any P w' (HW.out.tabs.later hb) (by have := htl.out; have : s.data.toList.length = s.size := rfl; omega)
      have hS := bstr w.heap.size w.heap.size acc wr hB hsz
      rw [he, ← hP] at hS
      rw [hPl] at hRP
      have HRP := Lib.hid hRP
      have HS := Lib.hid hS
      have hfin : Hid (repairL (rawL s.data.toList) = decW s.data.toList) := rfl
      clear hRP hS hrel he hP hPl hPs
      go_wp2_with (first
        | (go_at_call 19; (with_reducible refine HS.out.mono ?_); rintro e w1 ⟨rfl, -, hb1, -⟩; have hbel1 := hbel.trans hb1)
        | (go_at_call 13; (with_reducible refine (HRP.out _ hbel1).mono ?_); rintro e w2 ⟨rfl, hb2⟩; have hbel2 := hbel1.trans (hb2.mono hbel1.size)))
      try rw [Exit.noGoto_ret]
      go_ret
      rw [← hfin.out]
      exact ⟨rfl, hbel2⟩
end Go.Proofs.YtafmldooephmaaaDoor
