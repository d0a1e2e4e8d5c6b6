/- Walks of the reference pouchref04: Decode. -/
import Derived.Test.YtafmldooephmaaaDoorR04k
import Derived.OwnWalk
import Derived.Deep.DeepCutAuto
import Derived.Deep.CutBlock
namespace Go.Proofs.YtafmldooephmaaaDoor
open Go.RowKit Pk U8 Cs

theorem decB_step {f : UInt8 → Nat} {s : ByteArray} {k : Nat} {acc X : List UInt8} (h : Hid (acc ++ decB f (tl s k) = X)) (hk : k < s.size) : Hid (acc ++ Lib.encodeRune (f s[k] : Int) ++ decB f (tl s (k + 1)) = X) := by
  have e := h.out
  rw [tl_cons s k hk] at e
  show _ = _
  rw [← e]
  unfold decB
  rw [List.flatMap_cons, List.append_assoc]
theorem decB_end {f : UInt8 → Nat} {s : ByteArray} {k : Nat} {acc X : List UInt8} (h : Hid (acc ++ decB f (tl s k) = X)) (hk : ¬ k < s.size) : acc = X := by
  have e := h.out
  rw [tl_end s k (by omega)] at e
  simpa [decB] using e
def tabC (w : World) (g : Nat) : Prop := ∀ k : Nat, k < 32 → w.cell? ⟨g, k, none⟩ = some (.int .i64 (winTab.getD k 0 : Nat))
def DecIs4 (l : List UInt8) (w : World) (e : Ending) (w' : World) : Prop := (∃ b, e = .returned (.tuple #[.string ⟨l.toArray⟩, .bool b])) ∧ Below w.heap.size w w'
theorem tab_new (w : World) : tabC (w.alloc (.cells #[.int .i64 8364, .int .i64 129, .int .i64 8218, .int .i64 402, .int .i64 8222, .int .i64 8230, .int .i64 8224, .int .i64 8225, .int .i64 710, .int .i64 8240, .int .i64 352, .int .i64 8249, .int .i64 338, .int .i64 141, .int .i64 381, .int .i64 143, .int .i64 144, .int .i64 8216, .int .i64 8217, .int .i64 8220, .int .i64 8221, .int .i64 8226, .int .i64 8211, .int .i64 8212, .int .i64 732, .int .i64 8482, .int .i64 353, .int .i64 8250, .int .i64 339, .int .i64 157, .int .i64 382, .int .i64 376] 3)) w.heap.size := by
  intro k hk
  have := cells_new w [.int .i64 8364, .int .i64 129, .int .i64 8218, .int .i64 402, .int .i64 8222, .int .i64 8230, .int .i64 8224, .int .i64 8225, .int .i64 710, .int .i64 8240, .int .i64 352, .int .i64 8249, .int .i64 338, .int .i64 141, .int .i64 381, .int .i64 143, .int .i64 144, .int .i64 8216, .int .i64 8217, .int .i64 8220, .int .i64 8221, .int .i64 8226, .int .i64 8211, .int .i64 8212, .int .i64 732, .int .i64 8482, .int .i64 353, .int .i64 8250, .int .i64 339, .int .i64 157, .int .i64 382, .int .i64 376] 3 k (.int .i64 (winTab.getD k 0 : Nat)) (by
    rcases (show k = 0 ∨ k = 1 ∨ k = 2 ∨ k = 3 ∨ k = 4 ∨ k = 5 ∨ k = 6 ∨ k = 7 ∨ k = 8 ∨ k = 9 ∨ k = 10 ∨ k = 11 ∨ k = 12 ∨ k = 13 ∨ k = 14 ∨ k = 15 ∨ k = 16 ∨ k = 17 ∨ k = 18 ∨ k = 19 ∨ k = 20 ∨ k = 21 ∨ k = 22 ∨ k = 23 ∨ k = 24 ∨ k = 25 ∨ k = 26 ∨ k = 27 ∨ k = 28 ∨ k = 29 ∨ k = 30 ∨ k = 31 by omega) with rfl | rfl | rfl | rfl | rfl | rfl | rfl | rfl | rfl | rfl | rfl | rfl | rfl | rfl | rfl | rfl | rfl | rfl | rfl | rfl | rfl | rfl | rfl | rfl | rfl | rfl | rfl | rfl | rfl | rfl | rfl | rfl <;> rfl)
  rw [Addr.add_lit, Nat.zero_add] at this
  exact this
theorem tab_below {w w' : World} {g : Nat} (h : tabC w g) (hb : Below w.heap.size w w') : tabC w' g := fun k hk => cell_later hb (h k hk)
set_option maxHeartbeats 8000000 in
set_option maxRecDepth 100000 in
theorem decode4_any (name s : ByteArray) (w : World) (hn : name.size ≤ 3000000) (hs : s.size ≤ 3000000) : Calls Tryd.prog 45 #[.string name, .string s] w (DecIs4 (decCS name.data.toList s.data.toList) w) := by
  have hkn := fun w => kind4_any name w (by omega)
  have hk := kindL_le name.data.toList
  have hrp := fun w => repairR_any s w (by omega)
  have HRP := Lib.hid hrp
  unfold decCS
  obtain ⟨k, hkk⟩ : ∃ k, k = kindL name.data.toList := ⟨_, rfl⟩
  rw [← hkk] at hk hkn ⊢
  have HK := Lib.hid hkn
  clear hkk hrp hkn
  rcases (show k = 0 ∨ k = 1 ∨ k = 2 ∨ k = 3 ∨ k = 4 by omega) with rfl | rfl | rfl | rfl | rfl
  · have hx : Hid (decK 0 s.data.toList = decB win s.data.toList) := rfl
    rw [hx.out]
    clear hx
    have h0 : Hid (([] : List UInt8) ++ decB win (tl s 0) = decB win s.data.toList) := by show _ = _; rw [tl_zero]; rfl
    obtain ⟨X, hX⟩ : ∃ X, X = decB win s.data.toList := ⟨_, rfl⟩
    rw [← hX] at h0 ⊢
    clear hX
    go_enter Tryd.func45, Tryd.ntmps45
    go_wp2_with (go_at_call 72; (with_reducible refine (HK.out _).mono ?_); rintro e w1 ⟨rfl, hb1⟩)
    have ht1 := tab_below (tab_new w) hb1
    have tb : Below w.heap.size w w1 := ((Below.refl _ _).alloc (Nat.le_refl w.heap.size) _).trans (hb1.mono (by simp))
    have hgl : w.heap.size < w1.heap.size := by have := hb1.size; simp at this; omega
    have HT := Lib.hid ht1
    clear ht1 hb1
    go_loopw [8, 9] (fun v i wr => ∃ (k : Nat) (acc : List UInt8), i = .int .i64 k ∧ ownsB wr w1.heap.size 5 v acc ∧ Below w1.heap.size w1 wr ∧ k ≤ s.size ∧ acc.length ≤ 4 * k ∧ Hid (acc ++ decB win (tl s k) = X)) (fun _ i _ => s.size - (intOf i).toNat)
    case atStart => exact ⟨0, [], by first | rfl | trivial, ownsB.nil _ _ _, Below.refl _ _, by omega, by simp, h0⟩
    case round =>
      obtain ⟨k, acc, rfl, hown, hbel, hk, hal, hrel⟩ := hrel
      have hsz := hbel.size
      by_cases hlt : k < s.size
      · have hc := s[k].toNat_lt
        have hstep := decB_step hrel hlt
        have hel := enc_len (win s[k])
        have hsc := win_sca s[k]
        by_cases h1 : s[k].toNat < 128
        · have hf : win s[k] = s[k].toNat := by unfold win; rw [if_pos (.inl h1)]
          rw [hf] at hstep hel hsc
          clear hf
          have hL : ∀ w, Calls Tryd.prog 46 #[.int .i64 (s[k].toNat : Nat)] w (Laid (s[k].toNat) w) := fun w => laid_any (s[k].toNat) w hsc
          unfold Laid at hL
          obtain ⟨L, hL0⟩ : ∃ L, L = Lib.encodeRune ((s[k].toNat : Nat) : Int) := ⟨_, rfl⟩
          rw [← hL0] at hL hel hstep
          have HL := Lib.hid hL
          have HST := Lib.hid hstep
          have hel2 := hel.2
          clear hL hL0 hstep hrel hel hsc
          go_wp2_with (first
            | (go_at_call 46; (with_reducible refine (HL.out _).mono ?_); rintro e w3 ⟨rfl, rfl⟩)
            | (at_builtin; refine append_bytes _ rfl (.tmp 53) (.tmp 55) bsl04 rfl w1.heap.size _ _ rfl (hown.alloc _) ⟨_, 0, none⟩ L.length L.length L rfl rfl (cells_new _ _ _) (by omega) (by simp; omega) ?_; intro v2 w2 hown2 hg2; have hb2 := Below_grown (hbel.alloc hsz _) (hown.alloc _) hg2 (by simp; omega); have hz2 := hb2.size; clear hg2))
          go_roundw
          case rel => exact ⟨k + 1, _, by go_num, hown2, hb2, by omega, by rw [List.length_append]; omega, HST.out⟩
          case measure => simp [intOf]; omega
        · by_cases h2 : 160 ≤ s[k].toNat
          · have hf : win s[k] = s[k].toNat := by unfold win; rw [if_pos (.inr h2)]
            rw [hf] at hstep hel hsc
            clear hf
            have hL : ∀ w, Calls Tryd.prog 46 #[.int .i64 (s[k].toNat : Nat)] w (Laid (s[k].toNat) w) := fun w => laid_any (s[k].toNat) w hsc
            unfold Laid at hL
            obtain ⟨L, hL0⟩ : ∃ L, L = Lib.encodeRune ((s[k].toNat : Nat) : Int) := ⟨_, rfl⟩
            rw [← hL0] at hL hel hstep
            have HL := Lib.hid hL
            have HST := Lib.hid hstep
            have hel2 := hel.2
            clear hL hL0 hstep hrel hel hsc
            go_wp2_with (first
              | (go_at_call 46; (with_reducible refine (HL.out _).mono ?_); rintro e w3 ⟨rfl, rfl⟩)
              | (at_builtin; refine append_bytes _ rfl (.tmp 53) (.tmp 55) bsl04 rfl w1.heap.size _ _ rfl (hown.alloc _) ⟨_, 0, none⟩ L.length L.length L rfl rfl (cells_new _ _ _) (by omega) (by simp; omega) ?_; intro v2 w2 hown2 hg2; have hb2 := Below_grown (hbel.alloc hsz _) (hown.alloc _) hg2 (by simp; omega); have hz2 := hb2.size; clear hg2))
            go_roundw
            case rel => exact ⟨k + 1, _, by go_num, hown2, hb2, by omega, by rw [List.length_append]; omega, HST.out⟩
            case measure => simp [intOf]; omega
          · have hf : win s[k] = winTab.getD (s[k].toNat - 128) 0 := by unfold win; rw [if_neg (by omega)]
            have hct := cell_later hbel (HT.out (s[k].toNat - 128) (by omega))
            rw [← hf] at hct
            clear hf
            obtain ⟨V, hV⟩ : ∃ V, V = win s[k] := ⟨_, rfl⟩
            rw [← hV] at hct hstep hel hsc
            clear hV
            have h3 : (s[k].toNat : Int) < 160 := by omega
            have h4 : ¬ ((s[k].toNat : Int) < 128) := by omega
            have hL : ∀ w, Calls Tryd.prog 46 #[.int .i64 (V : Nat)] w (Laid (V) w) := fun w => laid_any (V) w hsc
            unfold Laid at hL
            obtain ⟨L, hL0⟩ : ∃ L, L = Lib.encodeRune ((V : Nat) : Int) := ⟨_, rfl⟩
            rw [← hL0] at hL hel hstep
            have HL := Lib.hid hL
            have HST := Lib.hid hstep
            have hel2 := hel.2
            clear hL hL0 hstep hrel hel hsc
            go_wp2_with (first
              | (go_at_call 46; (with_reducible refine (HL.out _).mono ?_); rintro e w3 ⟨rfl, rfl⟩)
              | (at_builtin; refine append_bytes _ rfl (.tmp 53) (.tmp 55) bsl04 rfl w1.heap.size _ _ rfl (hown.alloc _) ⟨_, 0, none⟩ L.length L.length L rfl rfl (cells_new _ _ _) (by omega) (by simp; omega) ?_; intro v2 w2 hown2 hg2; have hb2 := Below_grown (hbel.alloc hsz _) (hown.alloc _) hg2 (by simp; omega); have hz2 := hb2.size; clear hg2))
            go_roundw
            case rel => exact ⟨k + 1, _, by go_num, hown2, hb2, by omega, by rw [List.length_append]; omega, HST.out⟩
            case measure => simp [intOf]; omega
      · have hfin := decB_end hrel hlt
        have HF := Lib.hid hfin
        have hcv := run_string_owned (P := Tryd.prog) (ts := 9) bsl04 Tryd.underlying9 hown
        clear hrel hfin
        go_wp2
        go_ret2
        rw [← HF.out]
        exact ⟨⟨_, rfl⟩, tb.trans (hbel.mono tb.size)⟩
  · have hx : Hid (decK 1 s.data.toList = decB asc s.data.toList) := rfl
    rw [hx.out]
    clear hx
    have h0 : Hid (([] : List UInt8) ++ decB asc (tl s 0) = decB asc s.data.toList) := by show _ = _; rw [tl_zero]; rfl
    obtain ⟨X, hX⟩ : ∃ X, X = decB asc s.data.toList := ⟨_, rfl⟩
    rw [← hX] at h0 ⊢
    clear hX
    go_enter Tryd.func45, Tryd.ntmps45
    go_wp2_with (go_at_call 72; (with_reducible refine (HK.out _).mono ?_); rintro e w1 ⟨rfl, hb1⟩)
    have ht1 := tab_below (tab_new w) hb1
    have tb : Below w.heap.size w w1 := ((Below.refl _ _).alloc (Nat.le_refl w.heap.size) _).trans (hb1.mono (by simp))
    have hgl : w.heap.size < w1.heap.size := by have := hb1.size; simp at this; omega
    have HT := Lib.hid ht1
    clear ht1 hb1
    go_loopw [8, 9] (fun v i wr => ∃ (k : Nat) (acc : List UInt8), i = .int .i64 k ∧ ownsB wr w1.heap.size 5 v acc ∧ Below w1.heap.size w1 wr ∧ k ≤ s.size ∧ acc.length ≤ 4 * k ∧ Hid (acc ++ decB asc (tl s k) = X)) (fun _ i _ => s.size - (intOf i).toNat)
    case atStart => exact ⟨0, [], by first | rfl | trivial, ownsB.nil _ _ _, Below.refl _ _, by omega, by simp, h0⟩
    case round =>
      obtain ⟨k, acc, rfl, hown, hbel, hk, hal, hrel⟩ := hrel
      have hsz := hbel.size
      by_cases hlt : k < s.size
      · have hc := s[k].toNat_lt
        have hstep := decB_step hrel hlt
        have hel := enc_len (asc s[k])
        have hsc := asc_sca s[k]
        by_cases h1 : s[k].toNat < 128
        · have hf : asc s[k] = s[k].toNat := by unfold asc; rw [if_pos h1]
          rw [hf] at hstep hel hsc
          clear hf
          have hL : ∀ w, Calls Tryd.prog 46 #[.int .i64 (s[k].toNat : Nat)] w (Laid (s[k].toNat) w) := fun w => laid_any (s[k].toNat) w hsc
          unfold Laid at hL
          obtain ⟨L, hL0⟩ : ∃ L, L = Lib.encodeRune ((s[k].toNat : Nat) : Int) := ⟨_, rfl⟩
          rw [← hL0] at hL hel hstep
          have HL := Lib.hid hL
          have HST := Lib.hid hstep
          have hel2 := hel.2
          clear hL hL0 hstep hrel hel hsc
          go_wp2_with (first
            | (go_at_call 46; (with_reducible refine (HL.out _).mono ?_); rintro e w3 ⟨rfl, rfl⟩)
            | (at_builtin; refine append_bytes _ rfl (.tmp 53) (.tmp 55) bsl04 rfl w1.heap.size _ _ rfl (hown.alloc _) ⟨_, 0, none⟩ L.length L.length L rfl rfl (cells_new _ _ _) (by omega) (by simp; omega) ?_; intro v2 w2 hown2 hg2; have hb2 := Below_grown (hbel.alloc hsz _) (hown.alloc _) hg2 (by simp; omega); have hz2 := hb2.size; clear hg2))
          go_roundw
          case rel => exact ⟨k + 1, _, by go_num, hown2, hb2, by omega, by rw [List.length_append]; omega, HST.out⟩
          case measure => simp [intOf]; omega
        · have hf : asc s[k] = 65533 := by unfold asc; rw [if_neg h1]
          rw [hf] at hstep hel hsc
          clear hf
          have hL : ∀ w, Calls Tryd.prog 46 #[.int .i64 65533] w (Laid (65533) w) := fun w => laid_any (65533) w hsc
          unfold Laid at hL
          obtain ⟨L, hL0⟩ : ∃ L, L = Lib.encodeRune ((65533 : Nat) : Int) := ⟨_, rfl⟩
          rw [← hL0] at hL hel hstep
          have HL := Lib.hid hL
          have HST := Lib.hid hstep
          have hel2 := hel.2
          clear hL hL0 hstep hrel hel hsc
          go_wp2_with (first
            | (go_at_call 46; (with_reducible refine (HL.out _).mono ?_); rintro e w3 ⟨rfl, rfl⟩)
            | (at_builtin; refine append_bytes _ rfl (.tmp 53) (.tmp 55) bsl04 rfl w1.heap.size _ _ rfl (hown.alloc _) ⟨_, 0, none⟩ L.length L.length L rfl rfl (cells_new _ _ _) (by omega) (by simp; omega) ?_; intro v2 w2 hown2 hg2; have hb2 := Below_grown (hbel.alloc hsz _) (hown.alloc _) hg2 (by simp; omega); have hz2 := hb2.size; clear hg2))
          go_roundw
          case rel => exact ⟨k + 1, _, by go_num, hown2, hb2, by omega, by rw [List.length_append]; omega, HST.out⟩
          case measure => simp [intOf]; omega
      · have hfin := decB_end hrel hlt
        have HF := Lib.hid hfin
        have hcv := run_string_owned (P := Tryd.prog) (ts := 9) bsl04 Tryd.underlying9 hown
        clear hrel hfin
        go_wp2
        go_ret2
        rw [← HF.out]
        exact ⟨⟨_, rfl⟩, tb.trans (hbel.mono tb.size)⟩
  · have hx : Hid (decK 2 s.data.toList = repairL s.data.toList) := rfl
    rw [hx.out]
    clear hx
    have tb := (Below.refl w.heap.size w).alloc (Nat.le_refl w.heap.size) (.cells #[.int .i64 8364, .int .i64 129, .int .i64 8218, .int .i64 402, .int .i64 8222, .int .i64 8230, .int .i64 8224, .int .i64 8225, .int .i64 710, .int .i64 8240, .int .i64 352, .int .i64 8249, .int .i64 338, .int .i64 141, .int .i64 381, .int .i64 143, .int .i64 144, .int .i64 8216, .int .i64 8217, .int .i64 8220, .int .i64 8221, .int .i64 8226, .int .i64 8211, .int .i64 8212, .int .i64 732, .int .i64 8482, .int .i64 353, .int .i64 8250, .int .i64 339, .int .i64 157, .int .i64 382, .int .i64 376] 3)
    go_enter Tryd.func45, Tryd.ntmps45
    go_wp2_with (first
      | (go_at_call 72; (with_reducible refine (HK.out _).mono ?_); rintro e w1 ⟨rfl, hb1⟩; have tb := tb.trans (hb1.mono tb.size))
      | (go_at_call 22; (with_reducible refine (HRP.out _).mono ?_); rintro e w2 ⟨rfl, hb2⟩; have tb := tb.trans (hb2.mono tb.size)))
    go_ret2
    exact ⟨⟨_, rfl⟩, tb⟩
  · have hx : Hid (decK 3 s.data.toList = decB lat s.data.toList) := rfl
    rw [hx.out]
    clear hx
    have h0 : Hid (([] : List UInt8) ++ decB lat (tl s 0) = decB lat s.data.toList) := by show _ = _; rw [tl_zero]; rfl
    obtain ⟨X, hX⟩ : ∃ X, X = decB lat s.data.toList := ⟨_, rfl⟩
    rw [← hX] at h0 ⊢
    clear hX
    go_enter Tryd.func45, Tryd.ntmps45
    go_wp2_with (go_at_call 72; (with_reducible refine (HK.out _).mono ?_); rintro e w1 ⟨rfl, hb1⟩)
    have ht1 := tab_below (tab_new w) hb1
    have tb : Below w.heap.size w w1 := ((Below.refl _ _).alloc (Nat.le_refl w.heap.size) _).trans (hb1.mono (by simp))
    have hgl : w.heap.size < w1.heap.size := by have := hb1.size; simp at this; omega
    have HT := Lib.hid ht1
    clear ht1 hb1
    go_loopw [8, 9] (fun v i wr => ∃ (k : Nat) (acc : List UInt8), i = .int .i64 k ∧ ownsB wr w1.heap.size 5 v acc ∧ Below w1.heap.size w1 wr ∧ k ≤ s.size ∧ acc.length ≤ 4 * k ∧ Hid (acc ++ decB lat (tl s k) = X)) (fun _ i _ => s.size - (intOf i).toNat)
    case atStart => exact ⟨0, [], by first | rfl | trivial, ownsB.nil _ _ _, Below.refl _ _, by omega, by simp, h0⟩
    case round =>
      obtain ⟨k, acc, rfl, hown, hbel, hk, hal, hrel⟩ := hrel
      have hsz := hbel.size
      by_cases hlt : k < s.size
      · have hc := s[k].toNat_lt
        have hstep := decB_step hrel hlt
        have hel := enc_len (lat s[k])
        have hsc := lat_sca s[k]
        have hf : lat s[k] = s[k].toNat := rfl
        rw [hf] at hstep hel hsc
        clear hf
        have hL : ∀ w, Calls Tryd.prog 46 #[.int .i64 (s[k].toNat : Nat)] w (Laid (s[k].toNat) w) := fun w => laid_any (s[k].toNat) w hsc
        unfold Laid at hL
        obtain ⟨L, hL0⟩ : ∃ L, L = Lib.encodeRune ((s[k].toNat : Nat) : Int) := ⟨_, rfl⟩
        rw [← hL0] at hL hel hstep
        have HL := Lib.hid hL
        have HST := Lib.hid hstep
        have hel2 := hel.2
        clear hL hL0 hstep hrel hel hsc
        go_wp2_with (first
          | (go_at_call 46; (with_reducible refine (HL.out _).mono ?_); rintro e w3 ⟨rfl, rfl⟩)
          | (at_builtin; refine append_bytes _ rfl (.tmp 53) (.tmp 55) bsl04 rfl w1.heap.size _ _ rfl (hown.alloc _) ⟨_, 0, none⟩ L.length L.length L rfl rfl (cells_new _ _ _) (by omega) (by simp; omega) ?_; intro v2 w2 hown2 hg2; have hb2 := Below_grown (hbel.alloc hsz _) (hown.alloc _) hg2 (by simp; omega); have hz2 := hb2.size; clear hg2))
        go_roundw
        case rel => exact ⟨k + 1, _, by go_num, hown2, hb2, by omega, by rw [List.length_append]; omega, HST.out⟩
        case measure => simp [intOf]; omega
      · have hfin := decB_end hrel hlt
        have HF := Lib.hid hfin
        have hcv := run_string_owned (P := Tryd.prog) (ts := 9) bsl04 Tryd.underlying9 hown
        clear hrel hfin
        go_wp2
        go_ret2
        rw [← HF.out]
        exact ⟨⟨_, rfl⟩, tb.trans (hbel.mono tb.size)⟩
  · have hx : Hid (decK 4 s.data.toList = decB win s.data.toList) := rfl
    rw [hx.out]
    clear hx
    have h0 : Hid (([] : List UInt8) ++ decB win (tl s 0) = decB win s.data.toList) := by show _ = _; rw [tl_zero]; rfl
    obtain ⟨X, hX⟩ : ∃ X, X = decB win s.data.toList := ⟨_, rfl⟩
    rw [← hX] at h0 ⊢
    clear hX
    go_enter Tryd.func45, Tryd.ntmps45
    go_wp2_with (go_at_call 72; (with_reducible refine (HK.out _).mono ?_); rintro e w1 ⟨rfl, hb1⟩)
    have ht1 := tab_below (tab_new w) hb1
    have tb : Below w.heap.size w w1 := ((Below.refl _ _).alloc (Nat.le_refl w.heap.size) _).trans (hb1.mono (by simp))
    have hgl : w.heap.size < w1.heap.size := by have := hb1.size; simp at this; omega
    have HT := Lib.hid ht1
    clear ht1 hb1
    go_loopw [8, 9] (fun v i wr => ∃ (k : Nat) (acc : List UInt8), i = .int .i64 k ∧ ownsB wr w1.heap.size 5 v acc ∧ Below w1.heap.size w1 wr ∧ k ≤ s.size ∧ acc.length ≤ 4 * k ∧ Hid (acc ++ decB win (tl s k) = X)) (fun _ i _ => s.size - (intOf i).toNat)
    case atStart => exact ⟨0, [], by first | rfl | trivial, ownsB.nil _ _ _, Below.refl _ _, by omega, by simp, h0⟩
    case round =>
      obtain ⟨k, acc, rfl, hown, hbel, hk, hal, hrel⟩ := hrel
      have hsz := hbel.size
      by_cases hlt : k < s.size
      · have hc := s[k].toNat_lt
        have hstep := decB_step hrel hlt
        have hel := enc_len (win s[k])
        have hsc := win_sca s[k]
        by_cases h1 : s[k].toNat < 128
        · have hf : win s[k] = s[k].toNat := by unfold win; rw [if_pos (.inl h1)]
          rw [hf] at hstep hel hsc
          clear hf
          have hL : ∀ w, Calls Tryd.prog 46 #[.int .i64 (s[k].toNat : Nat)] w (Laid (s[k].toNat) w) := fun w => laid_any (s[k].toNat) w hsc
          unfold Laid at hL
          obtain ⟨L, hL0⟩ : ∃ L, L = Lib.encodeRune ((s[k].toNat : Nat) : Int) := ⟨_, rfl⟩
          rw [← hL0] at hL hel hstep
          have HL := Lib.hid hL
          have HST := Lib.hid hstep
          have hel2 := hel.2
          clear hL hL0 hstep hrel hel hsc
          go_wp2_with (first
            | (go_at_call 46; (with_reducible refine (HL.out _).mono ?_); rintro e w3 ⟨rfl, rfl⟩)
            | (at_builtin; refine append_bytes _ rfl (.tmp 53) (.tmp 55) bsl04 rfl w1.heap.size _ _ rfl (hown.alloc _) ⟨_, 0, none⟩ L.length L.length L rfl rfl (cells_new _ _ _) (by omega) (by simp; omega) ?_; intro v2 w2 hown2 hg2; have hb2 := Below_grown (hbel.alloc hsz _) (hown.alloc _) hg2 (by simp; omega); have hz2 := hb2.size; clear hg2))
          go_roundw
          case rel => exact ⟨k + 1, _, by go_num, hown2, hb2, by omega, by rw [List.length_append]; omega, HST.out⟩
          case measure => simp [intOf]; omega
        · by_cases h2 : 160 ≤ s[k].toNat
          · have hf : win s[k] = s[k].toNat := by unfold win; rw [if_pos (.inr h2)]
            rw [hf] at hstep hel hsc
            clear hf
            have hL : ∀ w, Calls Tryd.prog 46 #[.int .i64 (s[k].toNat : Nat)] w (Laid (s[k].toNat) w) := fun w => laid_any (s[k].toNat) w hsc
            unfold Laid at hL
            obtain ⟨L, hL0⟩ : ∃ L, L = Lib.encodeRune ((s[k].toNat : Nat) : Int) := ⟨_, rfl⟩
            rw [← hL0] at hL hel hstep
            have HL := Lib.hid hL
            have HST := Lib.hid hstep
            have hel2 := hel.2
            clear hL hL0 hstep hrel hel hsc
            go_wp2_with (first
              | (go_at_call 46; (with_reducible refine (HL.out _).mono ?_); rintro e w3 ⟨rfl, rfl⟩)
              | (at_builtin; refine append_bytes _ rfl (.tmp 53) (.tmp 55) bsl04 rfl w1.heap.size _ _ rfl (hown.alloc _) ⟨_, 0, none⟩ L.length L.length L rfl rfl (cells_new _ _ _) (by omega) (by simp; omega) ?_; intro v2 w2 hown2 hg2; have hb2 := Below_grown (hbel.alloc hsz _) (hown.alloc _) hg2 (by simp; omega); have hz2 := hb2.size; clear hg2))
            go_roundw
            case rel => exact ⟨k + 1, _, by go_num, hown2, hb2, by omega, by rw [List.length_append]; omega, HST.out⟩
            case measure => simp [intOf]; omega
          · have hf : win s[k] = winTab.getD (s[k].toNat - 128) 0 := by unfold win; rw [if_neg (by omega)]
            have hct := cell_later hbel (HT.out (s[k].toNat - 128) (by omega))
            rw [← hf] at hct
            clear hf
            obtain ⟨V, hV⟩ : ∃ V, V = win s[k] := ⟨_, rfl⟩
            rw [← hV] at hct hstep hel hsc
            clear hV
            have h3 : (s[k].toNat : Int) < 160 := by omega
            have h4 : ¬ ((s[k].toNat : Int) < 128) := by omega
            have hL : ∀ w, Calls Tryd.prog 46 #[.int .i64 (V : Nat)] w (Laid (V) w) := fun w => laid_any (V) w hsc
            unfold Laid at hL
            obtain ⟨L, hL0⟩ : ∃ L, L = Lib.encodeRune ((V : Nat) : Int) := ⟨_, rfl⟩
            rw [← hL0] at hL hel hstep
            have HL := Lib.hid hL
            have HST := Lib.hid hstep
            have hel2 := hel.2
            clear hL hL0 hstep hrel hel hsc
            go_wp2_with (first
              | (go_at_call 46; (with_reducible refine (HL.out _).mono ?_); rintro e w3 ⟨rfl, rfl⟩)
              | (at_builtin; refine append_bytes _ rfl (.tmp 53) (.tmp 55) bsl04 rfl w1.heap.size _ _ rfl (hown.alloc _) ⟨_, 0, none⟩ L.length L.length L rfl rfl (cells_new _ _ _) (by omega) (by simp; omega) ?_; intro v2 w2 hown2 hg2; have hb2 := Below_grown (hbel.alloc hsz _) (hown.alloc _) hg2 (by simp; omega); have hz2 := hb2.size; clear hg2))
            go_roundw
            case rel => exact ⟨k + 1, _, by go_num, hown2, hb2, by omega, by rw [List.length_append]; omega, HST.out⟩
            case measure => simp [intOf]; omega
      · have hfin := decB_end hrel hlt
        have HF := Lib.hid hfin
        have hcv := run_string_owned (P := Tryd.prog) (ts := 9) bsl04 Tryd.underlying9 hown
        clear hrel hfin
        go_wp2
        go_ret2
        rw [← HF.out]
        exact ⟨⟨_, rfl⟩, tb.trans (hbel.mono tb.size)⟩
end Go.Proofs.YtafmldooephmaaaDoor
