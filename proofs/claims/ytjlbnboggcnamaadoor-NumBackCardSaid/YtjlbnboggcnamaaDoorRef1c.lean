/- Walks: the reference of layer 1: Hex, Unhex. -/
import Derived.Test.YtjlbnboggcnamaaDoorRef1b
import Derived.Deep.RegionHeld3
namespace Go.Proofs.YtjlbnboggcnamaaDoor
open Go.RowKit Pk Hx C1

theorem hexesR_at (x : Int) (h0 : 0 ≤ x) (h1 : x < 16) : ((⟨#[48, 49, 50, 51, 52, 53, 54, 55, 56, 57, 97, 98, 99, 100, 101, 102]⟩ : ByteArray)[x.toNat]'(by show x.toNat < 16; omega)) = hexD x := by
  have : ∀ i : Fin 16, ((⟨#[48, 49, 50, 51, 52, 53, 54, 55, 56, 57, 97, 98, 99, 100, 101, 102]⟩ : ByteArray)[i.val]'i.isLt) = hexD (i.val : Int) := by decide
  have := this ⟨x.toNat, by omega⟩
  simpa [Int.toNat_of_nonneg h0] using this
theorem hexR_step {s : ByteArray} {k : Nat} {acc X : List UInt8} (h : Hid (acc ++ hexL (tl s k) = X)) (h0 : k < s.size) : Hid (acc ++ [hexD ((s[k].toNat : Int) / 16), hexD ((s[k].toNat : Int) % 16)] ++ hexL (tl s (k + 1)) = X) := by
  have e := h.out
  rw [tl_cons s k h0, hexL] at e
  show _ = _
  rw [← e]; simp
theorem hexR_end {s : ByteArray} {k : Nat} {acc : List UInt8} (h : Hid (acc ++ hexL (tl s k) = hexL (tl s 0))) (h0 : ¬ k < s.size) : acc = hexL s.data.toList := by
  have e := h.out
  rw [tl_end s k (by omega), tl_zero] at e
  simpa [hexL] using e
set_option maxHeartbeats 1000000 in
theorem hexR_any (s : ByteArray) (w : World) (hs : s.size ≤ 1000000) :
    Calls Tryd.prog 16 #[.string s] w fun e w' => e = .returned (.string ⟨(hexL s.data.toList).toArray⟩) ∧ Below w.heap.size w w' := by
  go_enter Tryd.func16, Tryd.ntmps16
  go_wp2
  go_loopw [3, 4] (fun v i wr => ∃ (k : Nat) (acc : List UInt8), i = .int .i64 k ∧ ownsB wr w.heap.size 5 v acc ∧ Below w.heap.size w wr ∧ k ≤ s.size ∧ acc.length ≤ 2 * k ∧ Hid (acc ++ hexL (tl s k) = hexL (tl s 0))) (fun _ i _ => s.size - (intOf i).toNat)
  case atStart => exact ⟨0, [], rfl, ownsB.nil _ _ _, Below.refl _ _, by omega, by simp, rfl⟩
  case round =>
    obtain ⟨k, acc, rfl, hown, hbel, hk, hal, hrel⟩ := hrel
    have hsz := hbel.size
    by_cases hlt : k < s.size
    · have hb := s[k].toNat_lt
      have hd := Lib.hid (hexR_step hrel hlt)
      have i1 : 0 ≤ (s[k].toNat : Int) / 16 := by omega
      have i2 : (s[k].toNat : Int) / 16 < 16 := by omega
      have i3 : 0 ≤ (s[k].toNat : Int) % 16 := by omega
      have i4 : (s[k].toNat : Int) % 16 < 16 := by omega
      have x1 := hexesR_at ((s[k].toNat : Int) / 16) i1 i2
      have x2 := hexesR_at ((s[k].toNat : Int) % 16) i3 i4
      have w1 : IntKind.u8.wrap ((s[k].toNat : Int) / 16) = (s[k].toNat : Int) / 16 := w8 (by omega) (by omega)
      have w2 : IntKind.u8.wrap ((s[k].toNat : Int) % 16) = (s[k].toNat : Int) % 16 := w8 (by omega) (by omega)
      have w3 : (s[k].toNat : Int).tmod 16 = (s[k].toNat : Int) % 16 := tmod_nn (by omega)
      have w4 : (s[k].toNat : Int).tdiv 16 = (s[k].toNat : Int) / 16 := Int.tdiv_eq_ediv_of_nonneg (by omega)
      clear hrel
      go_wp2_with fail
      go_region_held3 (fun _ => True) (exact trivial)
        ((refine step_bytes (by rfl) (.tmp 11) (.tmp 22) bslR (by rfl) w.heap.size _ _ (by rfl) ((hown.alloc _).drew) ⟨_, 0, none⟩ 2 2 [hexD ((s[k].toNat : Int) / 16), hexD ((s[k].toNat : Int) % 16)] (by rfl) rfl (cells_new _ _ _) (by first | omega | (simp; done) | (simp; omega)) (by first | omega | (simp; done) | (simp; omega)) ?_; intro v1 w1 hown1 hg1; have hb1 := Below_grown ((hbel.alloc hsz _).drew) ((hown.alloc _).drew) hg1 (by first | omega | (simp; done) | (simp; omega)); have hz1 := hb1.size; clear hg1))
      all_goals
        go_wp2_with fail
        go_roundw
        case rel => exact ⟨k + 1, _, by go_num, hown1, hb1, by omega, by simp; omega, hd⟩
        case measure => simp [intOf]; omega
    · have H := Lib.hid (hexR_end hrel hlt)
      have hcv := run_string_owned (P := Tryd.prog) (ts := 9) bslR Tryd.underlying9 hown
      go_wp2
      go_ret
      rw [← H.out]
      exact ⟨rfl, hbel⟩

theorem digI_of (c : UInt8) : (0 ≤ unhexR c ∧ digI c.toNat = unhexR c ∧ digI c.toNat < 16) ∨ (¬ 0 ≤ unhexR c ∧ digI c.toNat = 16) := by
  have h := unhexR_range c
  have e : unhexI (c.toNat : Int) = unhexR c := rfl
  unfold digI
  rw [e]
  by_cases hc : unhexR c < 0
  · right; rw [if_pos hc]; exact ⟨by omega, rfl⟩
  · left; rw [if_neg hc]; exact ⟨by omega, rfl, by omega⟩
theorem unhexR_step {s : ByteArray} {k : Nat} {acc : List UInt8} (h : 2 * k + 1 < s.size) (hr : Hid (unhexL (tl s 0) = (unhexL (tl s (2 * k))).map (acc ++ ·))) :
    (0 ≤ unhexR s[2 * k] → 0 ≤ unhexR s[2 * k + 1] → Hid (unhexL (tl s 0) = (unhexL (tl s (2 * (k + 1)))).map (acc ++ [b8 (16 * unhexR s[2 * k] + unhexR s[2 * k + 1])] ++ ·))) ∧
    (¬ (0 ≤ unhexR s[2 * k] ∧ 0 ≤ unhexR s[2 * k + 1]) → unhexL (tl s 0) = none) := by
  have e := hr.out
  rw [tl_cons s (2 * k) (by omega), tl_cons s (2 * k + 1) h, unhexL] at e
  constructor
  · intro h1 h2
    rw [if_pos ⟨h1, h2⟩] at e
    show _ = _
    rw [e, Option.map_map, show 2 * (k + 1) = 2 * k + 1 + 1 by omega]
    congr 1
    funext x
    simp
  · intro h1
    rw [if_neg h1] at e
    simpa using e
theorem unhexR_end {s : ByteArray} {k : Nat} {acc : List UInt8} (h : s.size ≤ 2 * k) (hr : Hid (unhexL (tl s 0) = (unhexL (tl s (2 * k))).map (acc ++ ·))) : unhexL s.data.toList = some acc := by
  have e := hr.out
  rw [tl_end s (2 * k) h, tl_zero] at e
  simpa [unhexL] using e
set_option maxHeartbeats 2000000 in
theorem unhexRef_any (s : ByteArray) (w : World) (hs : s.size ≤ 1000000) :
    Calls Tryd.prog 10 #[.string s] w fun e w' => e = .returned (.tuple #[.string ⟨((unhexL s.data.toList).getD []).toArray⟩, .bool (unhexL s.data.toList).isSome]) ∧ Below w.heap.size w w' := by
  by_cases hodd : s.size % 2 = 1
  · have hn := Lib.hid (unhexL_odd s.data.toList (by show s.size % 2 = 1; exact hodd))
    have hq : ((s.size : Int) % 2 != 0) = true := bne_iff_ne.2 (by omega)
    clear hodd
    go_enter Tryd.func10, Tryd.ntmps10
    go_wp2
    go_ret2
    rw [hn.out]
    exact ⟨rfl, Below.refl _ _⟩
  · obtain ⟨m, hm⟩ : ∃ m : Nat, 2 * m = s.size := ⟨s.size / 2, by omega⟩
    have hq : ((s.size : Int) % 2 != 0) = false := by rw [bne_eq_false_iff_eq]; omega
    have hm1 : (s.size : Int) ≤ 2 * m := by omega
    have hm2 : 2 * (m : Int) ≤ s.size := by omega
    clear hm hodd
    go_enter Tryd.func10, Tryd.ntmps10
    go_wp2
    go_loopw [4, 5] (fun v i wr => ∃ (k : Nat) (acc : List UInt8), i = .int .i64 (2 * (k : Int)) ∧ ownsB wr w.heap.size 5 v acc ∧ Below w.heap.size w wr ∧ k ≤ m ∧ acc.length ≤ k ∧ Hid (unhexL (tl s 0) = (unhexL (tl s (2 * k))).map (acc ++ ·))) (fun _ i _ => s.size - (intOf i).toNat)
    case atStart => exact ⟨0, [], rfl, ownsB.nil _ _ _, Below.refl _ _, by omega, by simp, show _ = _ by simp⟩
    case round =>
      obtain ⟨k, acc, rfl, hown, hbel, hk, hal, hrel⟩ := hrel
      have hsz := hbel.size
      by_cases hlt : k < m
      · have j0 : 2 * k < s.size := by omega
        have j1 : 2 * k + 1 < s.size := by omega
        have hstep := unhexR_step (s := s) (k := k) j1 hrel
        have b0 := s[2 * k].toNat_lt
        have b1 := s[2 * k + 1].toNat_lt
        have i0 : (2 * (k : Int)).toNat = 2 * k := by omega
        have i1 : (2 * (k : Int) + 1).toNat = 2 * k + 1 := by omega
        obtain ⟨r1, r2⟩ := unhexR_range s[2 * k]
        obtain ⟨r3, r4⟩ := unhexR_range s[2 * k + 1]
        have d0 := digI_of s[2 * k]
        have d1 := digI_of s[2 * k + 1]
        obtain ⟨A, hA⟩ : ∃ A, A = unhexR s[2 * k] := ⟨_, rfl⟩
        obtain ⟨D, hD⟩ : ∃ D, D = unhexR s[2 * k + 1] := ⟨_, rfl⟩
        rw [← hA] at d0 r1 r2 hstep
        rw [← hD] at d1 r3 r4 hstep
        obtain ⟨dA, hdA⟩ : ∃ dA, dA = digI s[2 * k].toNat := ⟨_, rfl⟩
        obtain ⟨dD, hdD⟩ : ∃ dD, dD = digI s[2 * k + 1].toNat := ⟨_, rfl⟩
        have c0 := fun w => digit_any s[2 * k].toNat w (by omega) (by omega)
        have c1 := fun w => digit_any s[2 * k + 1].toNat w (by omega) (by omega)
        rw [← hdA] at d0 c0
        rw [← hdD] at d1 c1
        have C0 := Lib.hid c0
        have C1 := Lib.hid c1
        clear c0 c1 hA hD hdA hdD hrel
        have stop : ∀ (h : ¬ (0 ≤ A ∧ 0 ≤ D)), Hid (unhexL s.data.toList = none) := fun h => Lib.hid (by rw [← tl_zero]; exact hstep.2 h)
        rcases d0 with ⟨a1, a2, a3⟩ | ⟨a1, a2⟩
        · rcases d1 with ⟨e1, e2, e3⟩ | ⟨e1, e2⟩
          · have hst := hstep.1 a1 e1
            have q1 : (dA == 16) = false := beq_eq_false_iff_ne.2 (by omega)
            have q2 : (dD == 16) = false := beq_eq_false_iff_ne.2 (by omega)
            have g1 : 0 ≤ dA := by omega
            have g2 : 0 ≤ dD := by omega
            rw [← a2, ← e2] at hst
            clear hstep stop a2 e2
            go_wp2_with (first
              | (go_at_call 23; (with_reducible refine (C0.out _).mono ?_); rintro e w' ⟨rfl, rfl⟩)
              | (go_at_call 23; (with_reducible refine (C1.out _).mono ?_); rintro e w' ⟨rfl, rfl⟩)
              | (at_builtin; refine append_bytes _ rfl (.tmp 33) (.tmp 39) bslR rfl w.heap.size _ _ rfl (ownsB.alloc hown _) ⟨_, 0, none⟩ 1 1 [b8 (16 * dA + dD)] rfl rfl (cells_byte _ _ _ (by omega) (by omega)) (by first | omega | (simp; done) | (simp; omega)) (by first | omega | (simp; done) | (simp; omega)) ?_; intro v1 w1 hown1 hg1; have hb1 := Below_grown (hbel.alloc hsz _) (ownsB.alloc hown _) hg1 (by first | omega | (simp; done) | (simp; omega)); clear hg1))
            go_roundw
            case rel => exact ⟨k + 1, _, by go_num, hown1, hb1, by omega, by simp; omega, hst⟩
            case measure => simp [intOf]; omega
          · have q1 : (dA == 16) = false := beq_eq_false_iff_ne.2 (by omega)
            subst e2
            have hn := stop (fun h => e1 h.2)
            clear hstep stop a2
            go_wp2_with (first
              | (go_at_call 23; (with_reducible refine (C0.out _).mono ?_); rintro e w' ⟨rfl, rfl⟩)
              | (go_at_call 23; (with_reducible refine (C1.out _).mono ?_); rintro e w' ⟨rfl, rfl⟩))
            go_ret2
            rw [hn.out]
            exact ⟨rfl, hbel⟩
        · subst a2
          have hn := stop (fun h => a1 h.1)
          clear hstep stop d1
          go_wp2_with (first
            | (go_at_call 23; (with_reducible refine (C0.out _).mono ?_); rintro e w' ⟨rfl, rfl⟩)
            | (go_at_call 23; (with_reducible refine (C1.out _).mono ?_); rintro e w' ⟨rfl, rfl⟩))
          go_ret2
          rw [hn.out]
          exact ⟨rfl, hbel⟩
      · have hkm : s.size ≤ 2 * k := by omega
        have hfin := Lib.hid (unhexR_end (s := s) (k := k) hkm hrel)
        have hcv := run_string_owned (P := Tryd.prog) (ts := 9) bslR Tryd.underlying9 hown
        have hge : (s.size : Int) ≤ 2 * (k : Int) := by omega
        clear hrel
        go_wp2
        go_ret2
        rw [hfin.out]
        exact ⟨rfl, hbel⟩
end Go.Proofs.YtjlbnboggcnamaaDoor
