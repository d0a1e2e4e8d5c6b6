/- Walk: the law CodecPlain. -/
import Derived.Test.YtgkbjgmcgbnnaaaDoorBack6
import Derived.Test.YtgkbjgmcgbnnaaaDoorPlain6d
namespace Go.Proofs.YtgkbjgmcgbnnaaaDoor
open Go.RowKit Pk C6 Hx

theorem cln_step {s : ByteArray} {k : Nat} {acc X : List UInt8} (h : Hid (acc ++ cln (tl s k) = X)) (hk : k < s.size) :
    ((s[k] ≠ 61 ∧ s[k] ≠ 32 ∧ s[k] ≠ 9) → Hid (acc ++ [s[k]] ++ cln (tl s (k + 1)) = X)) ∧ (¬ (s[k] ≠ 61 ∧ s[k] ≠ 32 ∧ s[k] ≠ 9) → Hid (acc ++ cln (tl s (k + 1)) = X)) := by
  have e := h.out
  rw [tl_cons s k hk, cln] at e
  constructor
  · intro c; rw [if_pos c] at e; show _ = _; rw [← e]; simp
  · intro c; rw [if_neg c] at e; exact e
theorem cln_end {s : ByteArray} {k : Nat} {acc X : List UInt8} (h : Hid (acc ++ cln (tl s k) = X)) (hk : ¬ k < s.size) : acc = X := by
  have e := h.out
  rw [tl_end s k (by omega)] at e
  simpa [cln] using e
theorem ne_b {c : UInt8} {v : UInt8} : (((c.toNat : Int) != (v.toNat : Int)) = true ↔ c ≠ v) := by
  rw [bne_iff_ne]
  constructor
  · intro h e; subst e; exact h rfl
  · intro h e; exact h (by rw [← UInt8.toNat_inj]; omega)
theorem app_list (a b : ByteArray) : (a ++ b).data.toList = a.data.toList ++ b.data.toList := by
  rw [ByteArray.data_append, Array.toList_append]
theorem arr_eq {a b : ByteArray} (h : a.data.toList = b.data.toList) : a = b := by
  cases a; cases b; congr 1; exact Array.toList_inj.1 h
set_option maxHeartbeats 4000000 in
theorem plainL_any (s t : ByteArray) (w : World) (m : Int) (hm : w.cell? ⟨0, 0, none⟩ = some (.int .i64 m)) : Calls Tryd.prog 7 #[.string s, .string t] w fun e w' => e = .returned (.bool true) ∧ Below w.heap.size w w' := by
  by_cases hs : s.size ≤ 10000 ∧ t.size ≤ 10000
  · obtain ⟨hs, ht⟩ := hs
    obtain ⟨P, hP, hPl, hPs⟩ := arr_ex (cln s.data.toList)
    have hcl := cln_Cln s.data.toList
    have hln : P.size ≤ 10000 := by
      have := cln_length s.data.toList
      have hl : s.data.toList.length = s.size := rfl
      omega
    obtain ⟨U, hU, hUl, hUs⟩ := arr_ex (unQpR t.data.toList)
    obtain ⟨V, hV, hVl, hVs⟩ := arr_ex (unQpR (t ++ ⟨#[120, 10]⟩ : ByteArray).data.toList)
    have hUb : U.size ≤ 100000 := by
      have := escR_le t.data.toList
      have hl : t.data.toList.length = t.size := rfl
      omega
    have hVb : V.size ≤ 100000 := by
      have := escR_le (t ++ ⟨#[120, 10]⟩ : ByteArray).data.toList
      have hl : (t ++ ⟨#[120, 10]⟩ : ByteArray).data.toList.length = t.size + 2 := by rw [app_list, List.length_append]; rfl
      omega
    have mk : ∀ (X R : ByteArray), X.size ≤ 1000000 → unQpR X.data.toList = R.data.toList → ∀ w, w.cell? ⟨0, 0, none⟩ = some (.int .i64 m) → Calls Tryd.prog 16 #[.string X] w fun e w' => e = .returned (.string R) ∧ Below w.heap.size w w' := by
      intro X R hX hR w hm
      have := unQpP_any X w m (by omega) hm
      rw [hR, str_of _ R rfl] at this
      exact this
    have C1 := Lib.hid (mk P P (by omega) (by rw [hPl]; exact unQp_cln hcl))
    have C2 := Lib.hid (mk (P ++ ⟨#[120, 10]⟩ ++ t) (P ++ ⟨#[120, 10]⟩ ++ U) (by rw [ByteArray.size_append, ByteArray.size_append]; show P.size + 2 + t.size ≤ _; omega) (by
      rw [app_list, app_list, app_list, app_list, hPl, hUl]; exact unQp_after hcl _))
    have C3 := Lib.hid (mk t U (by omega) hUl.symm)
    have C4 := Lib.hid (mk (t ++ ⟨#[120, 10]⟩ ++ P) (V ++ P) (by rw [ByteArray.size_append, ByteArray.size_append]; show t.size + 2 + P.size ≤ _; omega) (by
      rw [app_list, app_list, app_list, hPl, hVl, app_list]; exact unQp_ahead hcl _))
    have C5 := Lib.hid (mk (t ++ ⟨#[120, 10]⟩) V (by rw [ByteArray.size_append]; show t.size + 2 ≤ _; omega) hVl.symm)
    have HP := Lib.hid hP
    have hPl0 : P.data.toList = cln (tl s 0) := by rw [hPl, tl_zero]
    have HPl := Lib.hid hPl0
    clear mk hP hPl hPs hcl hU hUl hUs hV hVl hVs hPl0
    go_enter Tryd.func7, Tryd.ntmps7
    go_wp2_with (first
      | (go_at_call 8; refine (small_any _ m hm).mono ?_; rintro e w1 ⟨rfl, hb1⟩; have z1 := hb1.size)
      | (go_at_call 9; refine (few_any _ _).mono ?_; rintro e w' ⟨rfl, rfl⟩))
    go_loopw [6, 7] (fun v i wr => ∃ (k : Nat) (acc : List UInt8), i = .int .i64 k ∧ ownsB wr w.heap.size 5 v acc ∧ Below w.heap.size w wr ∧ k ≤ s.size ∧ acc.length ≤ k ∧ Hid (acc ++ cln (tl s k) = cln (tl s 0))) (fun _ i _ => s.size - (intOf i).toNat)
    case atStart => exact ⟨0, [], rfl, ownsB.nil _ _ _, hb1, by omega, by simp, rfl⟩
    case round =>
      obtain ⟨k, acc, rfl, hown, hbel, hk, hal, hrel⟩ := hrel
      have hsz := hbel.size
      by_cases hlt : k < s.size
      · have hb := s[k].toNat_lt
        have hst := cln_step hrel hlt
        clear hrel
        by_cases hc : s[k] ≠ 61 ∧ s[k] ≠ 32 ∧ s[k] ≠ 9
        · have q1 : ((s[k].toNat : Int) != 61) = true := (ne_b (v := 61)).2 hc.1
          have q2 : ((s[k].toNat : Int) != 32) = true := (ne_b (v := 32)).2 hc.2.1
          have q3 : ((s[k].toNat : Int) != 9) = true := (ne_b (v := 9)).2 hc.2.2
          have hst' := hst.1 hc
          clear hst hc
          go_wp2_with (at_builtin; refine append_bytes _ rfl (.tmp 41) (.tmp 45) bslU rfl w.heap.size _ _ rfl (hown.alloc _) ⟨_, 0, none⟩ 1 1 [s[k]] rfl rfl (cells_new _ _ _) (by first | omega | (simp; done) | (simp; omega)) (by first | omega | (simp; done) | (simp; omega)) ?_; intro v1 w1 hown1 hg1; have hb1 := Below_grown (hbel.alloc hsz _) (hown.alloc _) hg1 (by first | omega | (simp; done) | (simp; omega)); have hz1 := hb1.size; clear hg1)
          go_roundw
          case rel => exact ⟨k + 1, _, by go_num, hown1, hb1, by omega, by simp; omega, hst'⟩
          case measure => simp [intOf]; omega
        · have hst' := hst.2 hc
          clear hst
          by_cases h1 : s[k] = 61
          · have q1 : ((s[k].toNat : Int) != 61) = false := by rw [h1]; rfl
            clear hc h1
            go_wp2
            go_roundw
            case rel => exact ⟨k + 1, acc, by go_num, hown, hbel, by omega, by omega, hst'⟩
            case measure => simp [intOf]; omega
          · have q1 : ((s[k].toNat : Int) != 61) = true := (ne_b (v := 61)).2 h1
            by_cases h2 : s[k] = 32
            · have q2 : ((s[k].toNat : Int) != 32) = false := by rw [h2]; rfl
              clear hc h1 h2
              go_wp2
              go_roundw
              case rel => exact ⟨k + 1, acc, by go_num, hown, hbel, by omega, by omega, hst'⟩
              case measure => simp [intOf]; omega
            · have q2 : ((s[k].toNat : Int) != 32) = true := (ne_b (v := 32)).2 h2
              have h3 : s[k] = 9 := Classical.byContradiction fun h3 => hc ⟨h1, h2, h3⟩
              have q3 : ((s[k].toNat : Int) != 9) = false := by rw [h3]; rfl
              clear hc h1 h2 h3
              go_wp2
              go_roundw
              case rel => exact ⟨k + 1, acc, by go_num, hown, hbel, by omega, by omega, hst'⟩
              case measure => simp [intOf]; omega
      · have hacc : acc = P.data.toList := (cln_end hrel hlt).trans HPl.out.symm
        clear hrel
        have hcv := run_string_owned (P := Tryd.prog) (ts := 9) bslU Tryd.underlying9 hown
        rw [hacc, str_of _ P rfl] at hcv
        have mr := cell_below hm hbel rfl
        clear hacc hown hal
        go_wp2_with (first
          | (go_at_call 16; refine (C5.out _ m5).mono ?_; rintro e w6 ⟨rfl, hb6⟩; have t6 := t5.trans (hb6.mono z5); have z6 := t6.size)
          | (go_at_call 16; refine (C4.out _ m4).mono ?_; rintro e w5 ⟨rfl, hb5⟩; have t5 := t4.trans (hb5.mono z4); have z5 := t5.size; have m5 := cell_below hm t5 rfl)
          | (go_at_call 16; refine (C3.out _ m3).mono ?_; rintro e w4 ⟨rfl, hb4⟩; have t4 := t3.trans (hb4.mono z3); have z4 := t4.size; have m4 := cell_below hm t4 rfl)
          | (go_at_call 16; refine (C2.out _ m2).mono ?_; rintro e w3 ⟨rfl, hb3⟩; have t3 := t2.trans (hb3.mono z2); have z3 := t3.size; have m3 := cell_below hm t3 rfl)
          | (go_at_call 16; refine (C1.out _ mr).mono ?_; rintro e w2 ⟨rfl, hb2⟩; have t2 := hbel.trans (hb2.mono hsz); have z2 := t2.size; have m2 := cell_below hm t2 rfl))
        go_ret
        exact ⟨rfl, t6⟩
  · by_cases hs1 : s.size ≤ 10000
    · have ht : ¬ t.size ≤ 10000 := fun h => hs ⟨hs1, h⟩
      clear hs
      go_enter Tryd.func7, Tryd.ntmps7
      go_wp2_with (first
        | (go_at_call 8; refine (small_any _ m hm).mono ?_; rintro e w1 ⟨rfl, hb1⟩; have z1 := hb1.size)
        | (go_at_call 9; refine (few_any _ _).mono ?_; rintro e w' ⟨rfl, rfl⟩))
      go_ret
      exact ⟨rfl, hb1⟩
    · clear hs
      go_enter Tryd.func7, Tryd.ntmps7
      go_wp2_with (first
        | (go_at_call 8; refine (small_any _ m hm).mono ?_; rintro e w1 ⟨rfl, hb1⟩; have z1 := hb1.size)
        | (go_at_call 9; refine (few_any _ _).mono ?_; rintro e w' ⟨rfl, rfl⟩))
      go_ret
      exact ⟨rfl, hb1⟩
end Go.Proofs.YtgkbjgmcgbnnaaaDoor
