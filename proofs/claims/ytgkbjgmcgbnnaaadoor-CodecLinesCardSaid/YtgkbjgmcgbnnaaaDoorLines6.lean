/- Walks: narrow; the law CodecLines. -/
import Derived.Test.YtgkbjgmcgbnnaaaDoorBack6
import Derived.Test.YtgkbjgmcgbnnaaaDoorPlain6c
namespace Go.Proofs.YtgkbjgmcgbnnaaaDoor
open Go.RowKit Pk C6 Hx

def NwIs (s : ByteArray) (k n : Nat) (pb : Bool) : Prop := nw n pb (tl s k) = true ∧ (0 < n → ∃ h : k - 1 < s.size, 0 < k ∧ blankC s[k - 1] = pb)
theorem blank_facts {c : UInt8} (h : blankC c = false) : ((c.toNat : Int) == 32) = false ∧ ((c.toNat : Int) == 9) = false ∧ ((c.toNat : Int) != 32) = true ∧ ((c.toNat : Int) != 9) = true := by
  unfold blankC at h
  simp only [Bool.or_eq_false_iff, beq_eq_false_iff_ne, ne_eq] at h
  have e1 : (c.toNat : Int) ≠ 32 := fun e => h.1 (by rw [← UInt8.toNat_inj]; show c.toNat = 32; omega)
  have e2 : (c.toNat : Int) ≠ 9 := fun e => h.2 (by rw [← UInt8.toNat_inj]; show c.toNat = 9; omega)
  exact ⟨beq_eq_false_iff_ne.2 e1, beq_eq_false_iff_ne.2 e2, bne_iff_ne.2 e1, bne_iff_ne.2 e2⟩
theorem nwis_crlf {s : ByteArray} {k n : Nat} {pb : Bool} (h : NwIs s k n pb) (h1 : k + 1 < s.size) (a : s[k] = 13) (b : s[k + 1] = 10) : n ≤ 76 ∧ (n = 0 ∨ pb = false) ∧ NwIs s (k + 2) 0 false := by
  have e := h.1
  rw [tl_cons s k (by omega), tl_cons s (k + 1) h1, a, b, nw_crlf] at e
  simp only [Bool.and_eq_true, decide_eq_true_eq, Bool.or_eq_true, beq_iff_eq, Bool.not_eq_true'] at e
  exact ⟨e.1.1, e.1.2, e.2, fun h => absurd h (by omega)⟩
theorem nwis_char {s : ByteArray} {k n : Nat} {pb : Bool} (h : NwIs s k n pb) (hk : k < s.size) (a : ¬ (∃ h1 : k + 1 < s.size, s[k] = 13 ∧ s[k + 1] = 10)) : s[k] ≠ 13 ∧ badC s[k] = false ∧ NwIs s (k + 1) (n + 1) (blankC s[k]) := by
  have e := h.1
  have e2 : nw n pb (tl s k) = (!badC s[k] && nw (n + 1) (blankC s[k]) (tl s (k + 1))) := by
    rw [tl_cons s k hk]
    by_cases h1 : k + 1 < s.size
    · rw [tl_cons s (k + 1) h1, nw, if_neg (fun x => a ⟨h1, x.1, x.2⟩)]
    · rw [tl_end s (k + 1) (by omega)]; simp [nw]
  rw [e2] at e
  simp only [Bool.and_eq_true, Bool.not_eq_true'] at e
  refine ⟨?_, e.1, e.2, fun _ => ⟨by omega, by omega, rfl⟩⟩
  intro h13
  rw [h13] at e
  exact absurd e.1 (by decide)
theorem nwis_end {s : ByteArray} {k n : Nat} {pb : Bool} (h : NwIs s k n pb) (hk : ¬ k < s.size) : n ≤ 76 ∧ (n = 0 ∨ pb = false) := by
  have e := h.1
  rw [tl_end s k (by omega), nw] at e
  simp only [Bool.and_eq_true, decide_eq_true_eq, Bool.or_eq_true, beq_iff_eq, Bool.not_eq_true'] at e
  exact e

set_option maxHeartbeats 4000000 in
theorem narrow_any (s : ByteArray) (w : World) (hs : s.size ≤ 1000000) (hnw : nw 0 false s.data.toList = true) :
    Calls Tryd.prog 22 #[.string s] w fun e w' => e = .returned (.bool true) ∧ w = w' := by
  have h0 : NwIs s 0 0 false := ⟨by rw [tl_zero]; exact hnw, fun h => absurd h (by omega)⟩
  clear hnw
  go_enter Tryd.func22, Tryd.ntmps22
  go_wp2
  go_loopw [3, 4] (fun nv i wr => ∃ (k n : Nat) (pb : Bool), i = .int .i64 k ∧ nv = .int .i64 n ∧ wr = w ∧ k ≤ s.size ∧ n ≤ k ∧ NwIs s k n pb) (fun _ i _ => s.size - (intOf i).toNat)
  case atStart => exact ⟨0, 0, false, rfl, rfl, rfl, by omega, by omega, h0⟩
  case round =>
    obtain ⟨k, n, pb, rfl, rfl, rfl, hk, hnk, hrel⟩ := hrel
    by_cases hlt : k < s.size
    · have hb := s[k].toNat_lt
      by_cases hc : ∃ h1 : k + 1 < s.size, s[k] = 13 ∧ s[k + 1] = 10
      · obtain ⟨h1, ha, hb'⟩ := hc
        obtain ⟨h76, hn0, hnx⟩ := nwis_crlf hrel h1 ha hb'
        have q1 : ((s[k].toNat : Int) == 13) = true := by rw [ha]; rfl
        have q2 : ((s[k + 1].toNat : Int) == 10) = true := by rw [hb']; rfl
        clear ha hb'
        by_cases hz : n = 0
        · subst hz
          clear hrel
          go_wp2
          go_roundw
          case rel => exact ⟨k + 2, 0, false, by go_num, rfl, by first | rfl | trivial, by omega, by omega, hnx⟩
          case measure => simp [intOf]; omega
        · have hpb : pb = false := hn0.resolve_left hz
          obtain ⟨hk1, hk2, hbl⟩ := hrel.2 (by omega)
          obtain ⟨f1, f2, -, -⟩ := blank_facts (hbl.trans hpb)
          clear hrel hbl hn0
          go_wp2
          go_roundw
          case rel => exact ⟨k + 2, 0, false, by go_num, rfl, by first | rfl | trivial, by omega, by omega, hnx⟩
          case measure => simp [intOf]; omega
      · obtain ⟨h13, hbad, hnx⟩ := nwis_char hrel hlt hc
        have q1 : ((s[k].toNat : Int) == 13) = false := beq_eq_false_iff_ne.2 (fun e => h13 (by rw [← UInt8.toNat_inj]; show s[k].toNat = 13; omega))
        clear hrel hc h13
        unfold badC at hbad
        simp only [Bool.or_eq_false_iff, Bool.and_eq_false_iff, decide_eq_false_iff_not, bne_eq_false_iff_eq] at hbad
        obtain ⟨hlo, hhi⟩ := hbad
        have g2 : s[k].toNat ≤ 126 := by omega
        rcases hlo with hlo | hlo
        · have g1 : 32 ≤ s[k].toNat := by omega
          clear hlo hhi
          go_wp2
          go_roundw
          case rel => exact ⟨k + 1, n + 1, _, by go_num, by go_num, by first | rfl | trivial, by omega, by omega, hnx⟩
          case measure => simp [intOf]; omega
        · have g1 : ((s[k].toNat : Int) != 9) = false := by rw [bne_eq_false_iff_eq]; omega
          have g3 : (s[k].toNat : Int) < 32 := by omega
          clear hlo hhi g2
          go_wp2
          go_roundw
          case rel => exact ⟨k + 1, n + 1, _, by go_num, by go_num, by first | rfl | trivial, by omega, by omega, hnx⟩
          case measure => simp [intOf]; omega
    · obtain ⟨h76, hn0⟩ := nwis_end hrel hlt
      have hke : k = s.size := by omega
      by_cases hz : n = 0
      · subst hz
        clear hrel
        go_wp2
        go_ret
        exact ⟨rfl, rfl⟩
      · have hpb : pb = false := hn0.resolve_left hz
        obtain ⟨hk1, hk2, hbl⟩ := hrel.2 (by omega)
        subst hke
        obtain ⟨-, -, f1, f2⟩ := blank_facts (hbl.trans hpb)
        have hq : ((n : Int) == 0) = false := beq_eq_false_iff_ne.2 (by omega)
        clear hrel hbl hn0
        go_wp2
        go_ret
        exact ⟨rfl, rfl⟩

set_option maxHeartbeats 2000000 in
theorem lines_any (s : ByteArray) (w : World) (m : Int) (hm : w.cell? ⟨0, 0, none⟩ = some (.int .i64 m)) : Calls Tryd.prog 5 #[.string s] w fun e w' => e = .returned (.bool true) ∧ Below w.heap.size w w' := by
  by_cases hs : s.size ≤ 10000
  · have hl : s.data.toList.length = s.size := rfl
    have l1 : (b64R s.data.toList).length ≤ 200000 := by
      have := brk_length (sgR s.data.toList) 0
      have := sgR_length_le s.data.toList
      unfold b64R; omega
    have l2 : (qpR 0 s.data.toList).length ≤ 200000 := by have := qpR_length 0 s.data.toList; omega
    have l3 : (qR s.data.toList).length ≤ 200000 := by have := qR_length s.data.toList; omega
    have g1 := b64R_ge s.data.toList
    rw [hl] at g1
    obtain ⟨B, hB, hBl, hBs⟩ := arr_ex (b64R s.data.toList)
    obtain ⟨Q, hQ, hQl, hQs⟩ := arr_ex (qR s.data.toList)
    obtain ⟨P, hP, hPl, hPs⟩ := arr_ex (qpR 0 s.data.toList)
    have P1 : Hid (∀ w, Calls Tryd.prog 10 #[.string s] w fun e w' => e = .returned (.string B) ∧ Below w.heap.size w w') := fun w => by rw [hB]; exact b64P_any s w (by omega)
    have P2 : Hid (∀ w, w.cell? ⟨0, 0, none⟩ = some (.int .i64 m) → Calls Tryd.prog 14 #[.string s] w fun e w' => e = .returned (.string P) ∧ Below w.heap.size w w') := fun w hm => by rw [hP]; exact qpP_any s w m (by omega) hm
    have P3 : Hid (∀ w, Calls Tryd.prog 18 #[.string s] w fun e w' => e = .returned (.string Q) ∧ Below w.heap.size w w') := fun w => by rw [hQ]; exact qP_any s w (by omega)
    have N1 : Hid (∀ w, Calls Tryd.prog 22 #[.string B] w fun e w' => e = .returned (.bool true) ∧ w = w') := fun w => narrow_any B w (by omega) (by rw [hBl]; exact nw_b64 _)
    have N2 : Hid (∀ w, Calls Tryd.prog 22 #[.string P] w fun e w' => e = .returned (.bool true) ∧ w = w') := fun w => narrow_any P w (by omega) (by rw [hPl]; exact nw_qpR _)
    have HQ : Hid (∀ j, (h : j < Q.size) → 32 < Q[j].toNat ∧ Q[j].toNat ≤ 126 ∧ Q[j] ≠ 63) := by
      intro j h
      refine qR_vis s.data.toList _ ?_
      rw [← hQl]
      exact List.getElem_mem (l := Q.data.toList) (n := j) h
    have hBg : ((s.size : Int) + 2) / 3 * 4 ≤ (B.size : Int) := by omega
    have hQ9 : Q.size ≤ 200000 := by omega
    have hB9 : B.size ≤ 200000 := by omega
    clear hB hBl hBs hQ hQl hQs hP hPl hPs l1 l2 l3 g1
    go_enter Tryd.func5, Tryd.ntmps5
    go_wp2_with (first
      | (go_at_call 8; refine (small_any _ m hm).mono ?_; rintro e w1 ⟨rfl, hb1⟩; have z1 := hb1.size)
      | (go_at_call 9; refine (few_any _ _).mono ?_; rintro e w' ⟨rfl, rfl⟩)
      | (go_at_call 18; refine (P3.out _).mono ?_; rintro e w2 ⟨rfl, hb2⟩; have t2 := hb1.trans (hb2.mono z1); have z2 := t2.size))
    go_loopw [5] (fun i wr => ∃ k : Nat, i = .int .i64 k ∧ k ≤ Q.size ∧ wr = w2) (fun i _ => Q.size - (intOf i).toNat)
    case atStart => exact ⟨0, rfl, by omega, rfl⟩
    case round =>
      obtain ⟨k, rfl, hk, rfl⟩ := hrel
      by_cases hlt : k < Q.size
      · obtain ⟨a, b, c⟩ := HQ.out k hlt
        have q1 : ((Q[k].toNat : Int) == 63) = false := beq_eq_false_iff_ne.2 (fun e => c (by rw [← UInt8.toNat_inj]; show Q[k].toNat = 63; omega))
        clear c
        go_wp2
        go_roundw
        case rel => exact ⟨k + 1, by go_num, by omega, by first | rfl | trivial⟩
        case measure => simp [intOf]; omega
      · go_wp2_with (first
          | (go_at_call 10; refine (P1.out _).mono ?_; rintro e w3 ⟨rfl, hb3⟩; have t3 := t2.trans (hb3.mono z2); have z3 := t3.size; have m3 := cell_below hm t3 rfl)
          | (go_at_call 14; refine (P2.out _ m3).mono ?_; rintro e w4 ⟨rfl, hb4⟩; have t4 := t3.trans (hb4.mono z3); have z4 := t4.size)
          | (go_at_call 22; have hq4 := t4; refine (N2.out _).mono ?_; rintro e w' ⟨rfl, rfl⟩)
          | (go_at_call 22; refine (N1.out _).mono ?_; rintro e w' ⟨rfl, rfl⟩))
        go_ret
        exact ⟨rfl, t4⟩
  · go_enter Tryd.func5, Tryd.ntmps5
    go_wp2_with (first
      | (go_at_call 8; refine (small_any _ m hm).mono ?_; rintro e w1 ⟨rfl, hb1⟩; have z1 := hb1.size)
      | (go_at_call 9; refine (few_any _ _).mono ?_; rintro e w' ⟨rfl, rfl⟩))
    go_ret
    exact ⟨rfl, hb1⟩
end Go.Proofs.YtgkbjgmcgbnnaaaDoor
