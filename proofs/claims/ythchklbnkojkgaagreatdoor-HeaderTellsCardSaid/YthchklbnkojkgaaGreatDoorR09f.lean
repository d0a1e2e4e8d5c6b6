/- Walks: reference 09: Small, Unfold, Right. -/
import Derived.Test.YthchklbnkojkgaaGreatDoorR09c
namespace Go.Proofs.YthchklbnkojkgaaGreatDoor
open Go.RowKit Pk Hd

theorem mapR_step (f : UInt8 → UInt8) {s : ByteArray} {k : Nat} {acc X : List UInt8} {d : UInt8} (h : Hid (acc ++ (tl s k).map f = X)) (hk : k < s.size) (hd : f s[k] = d) : Hid (acc ++ [d] ++ (tl s (k + 1)).map f = X) := by
  have e := h.out
  rw [tl_cons s k hk, List.map_cons, hd] at e
  show _ = _
  rw [← e]; simp
theorem mapR_end (f : UInt8 → UInt8) {s : ByteArray} {k : Nat} {acc X : List UInt8} (h : Hid (acc ++ (tl s k).map f = X)) (hk : ¬ k < s.size) : acc = X := by
  have e := h.out
  rw [tl_end s k (by omega)] at e
  simpa using e
set_option maxHeartbeats 1000000 in
set_option maxRecDepth 100000 in
theorem rsmall_any (s : ByteArray) (w : World) (hs : s.size ≤ 10000000) :
    Calls Tryz.prog 23 #[.string s] w fun e w' => e = .returned (.string (toB (smallL s.data.toList))) ∧ Below w.heap.size w w' := by
  obtain ⟨X, hX⟩ : ∃ X, X = smallL s.data.toList := ⟨_, rfl⟩
  have h0 : Hid (([] : List UInt8) ++ (tl s 0).map Hd.lowc = X) := by show _ = _; rw [hX, tl_zero]; rfl
  rw [← hX]
  clear hX
  go_enter Tryz.func23, Tryz.ntmps23
  go_wp2
  go_loopw [3, 4] (fun v i wr => ∃ (k : Nat) (acc : List UInt8), i = .int .i64 k ∧ ownsB wr w.heap.size 5 v acc ∧ Below w.heap.size w wr ∧ k ≤ s.size ∧ acc.length ≤ k ∧ Hid (acc ++ (tl s k).map Hd.lowc = X)) (fun _ i _ => s.size - (intOf i).toNat)
  case atStart => exact ⟨0, [], rfl, ownsB.nil _ _ _, Below.refl _ _, by omega, by simp, h0⟩
  case round =>
    obtain ⟨k, acc, rfl, hown, hbel, hk, hal, hrel⟩ := hrel
    have hsz := hbel.size
    by_cases hlt : k < s.size
    · have hc := s[k].toNat_lt
      by_cases h1 : 65 ≤ s[k].toNat
      · by_cases h2 : s[k].toNat ≤ 90
        · have hd := mapR_step Hd.lowc (d := b8 ((s[k].toNat : Int) + 32)) hrel hlt (low_b8 h1 h2).symm
          clear hrel
          go_wp2_with (at_builtin; refine append_bytes _ rfl (.tmp 23) (.tmp 25) bsl rfl w.heap.size _ _ rfl (hown.alloc _) ⟨_, 0, none⟩ 1 1 [b8 ((s[k].toNat : Int) + 32)] rfl rfl (cells_byte _ _ _ (by omega) (by omega)) (by first | omega | (simp; done) | (simp; omega)) (by first | omega | (simp; done) | (simp; omega)) ?_; intro v1 w1 hown1 hg1; have hb1 := Below_grown (hbel.alloc hsz _) (hown.alloc _) hg1 (by first | omega | (simp; done) | (simp; omega)); have hz1 := hb1.size; clear hg1)
          go_roundw
          case rel => exact ⟨k + 1, _, by go_num, hown1, hb1, by omega, by simp; omega, hd⟩
          case measure => simp [intOf]; omega
        · have hd := mapR_step Hd.lowc (d := s[k]) hrel hlt (by unfold Hd.lowc; rw [if_neg (by omega)])
          clear hrel
          go_wp2_with (at_builtin; refine append_bytes _ rfl (.tmp 23) (.tmp 25) bsl rfl w.heap.size _ _ rfl (hown.alloc _) ⟨_, 0, none⟩ 1 1 [_] rfl rfl (cells_new _ _ _) (by first | omega | (simp; done) | (simp; omega)) (by first | omega | (simp; done) | (simp; omega)) ?_; intro v1 w1 hown1 hg1; have hb1 := Below_grown (hbel.alloc hsz _) (hown.alloc _) hg1 (by first | omega | (simp; done) | (simp; omega)); have hz1 := hb1.size; clear hg1)
          go_roundw
          case rel => exact ⟨k + 1, _, by go_num, hown1, hb1, by omega, by simp; omega, hd⟩
          case measure => simp [intOf]; omega
      · have hd := mapR_step Hd.lowc (d := s[k]) hrel hlt (by unfold Hd.lowc; rw [if_neg (by omega)])
        clear hrel
        go_wp2_with (at_builtin; refine append_bytes _ rfl (.tmp 23) (.tmp 25) bsl rfl w.heap.size _ _ rfl (hown.alloc _) ⟨_, 0, none⟩ 1 1 [_] rfl rfl (cells_new _ _ _) (by first | omega | (simp; done) | (simp; omega)) (by first | omega | (simp; done) | (simp; omega)) ?_; intro v1 w1 hown1 hg1; have hb1 := Below_grown (hbel.alloc hsz _) (hown.alloc _) hg1 (by first | omega | (simp; done) | (simp; omega)); have hz1 := hb1.size; clear hg1)
        go_roundw
        case rel => exact ⟨k + 1, _, by go_num, hown1, hb1, by omega, by simp; omega, hd⟩
        case measure => simp [intOf]; omega
    · have H := mapR_end Hd.lowc hrel hlt
      subst H
      have hcv := run_string_owned (P := Tryz.prog) (ts := 9) bsl Tryz.underlying9 hown
      clear hrel
      go_wp2
      go_ret
      exact ⟨rfl, hbel⟩
theorem unfold_keep : ∀ (c : UInt8) (t : List UInt8), c ≠ 10 → (c = 13 → t.head? ≠ some 10) → unfoldL (c :: t) = c :: unfoldL t
  | c, [], h, _ => by unfold unfoldL; rw [if_neg h]
  | c, d :: r, h, h2 => by
    conv => lhs; unfold unfoldL
    rw [if_neg h, if_neg (fun ⟨e1, e2⟩ => h2 e1 (by rw [e2]; rfl))]
theorem unf_skip {s : ByteArray} {k : Nat} {acc X : List UInt8} (h : Hid (acc ++ unfoldL (tl s k) = X)) (hk : k < s.size) (hc : s[k] = 10 ∨ (s[k] = 13 ∧ ∃ h2 : k + 1 < s.size, s[k + 1] = 10)) : Hid (acc ++ unfoldL (tl s (k + 1)) = X) := by
  have e := h.out
  show _ = _
  rcases hc with h1 | ⟨h1, h2, h3⟩
  · rw [tl_cons s k hk, h1, unfold_lf] at e; exact e
  · rw [tl_cons s k hk, h1, tl_cons s (k + 1) h2, h3, unfold_crlf] at e
    rw [tl_cons s (k + 1) h2, h3, unfold_lf]; exact e
theorem unf_keep {s : ByteArray} {k : Nat} {acc X : List UInt8} (h : Hid (acc ++ unfoldL (tl s k) = X)) (hk : k < s.size) (h1 : s[k] ≠ 10) (h2 : s[k] = 13 → ∀ h2 : k + 1 < s.size, s[k + 1] ≠ 10) : Hid (acc ++ [s[k]] ++ unfoldL (tl s (k + 1)) = X) := by
  have e := h.out
  show _ = _
  rw [tl_cons s k hk, unfold_keep _ _ h1 (fun e1 e2 => by
    by_cases hk2 : k + 1 < s.size
    · rw [tl_cons s (k + 1) hk2] at e2
      exact h2 e1 hk2 (Option.some.inj e2)
    · rw [tl_end s (k + 1) (by omega)] at e2; cases e2)] at e
  rw [← e]; simp
theorem unf_end {s : ByteArray} {k : Nat} {acc X : List UInt8} (h : Hid (acc ++ unfoldL (tl s k) = X)) (hk : ¬ k < s.size) : acc = X := by
  have e := h.out
  rw [tl_end s k (by omega)] at e
  unfold unfoldL at e
  simpa using e
set_option maxHeartbeats 2000000 in
set_option maxRecDepth 100000 in
theorem runfold_any (s : ByteArray) (w : World) (hs : s.size ≤ 10000000) :
    Calls Tryz.prog 28 #[.string s] w fun e w' => e = .returned (.string (toB (unfoldL s.data.toList))) ∧ Below w.heap.size w w' := by
  obtain ⟨X, hX⟩ : ∃ X, X = unfoldL s.data.toList := ⟨_, rfl⟩
  have h0 : Hid (([] : List UInt8) ++ unfoldL (tl s 0) = X) := by show _ = _; rw [hX, tl_zero]; rfl
  rw [← hX]
  clear hX
  go_enter Tryz.func28, Tryz.ntmps28
  go_wp2
  go_loopw [3, 4] (fun v i wr => ∃ (k : Nat) (acc : List UInt8), i = .int .i64 k ∧ ownsB wr w.heap.size 5 v acc ∧ Below w.heap.size w wr ∧ k ≤ s.size ∧ acc.length ≤ k ∧ Hid (acc ++ unfoldL (tl s k) = X)) (fun _ i _ => s.size - (intOf i).toNat)
  case atStart => exact ⟨0, [], rfl, ownsB.nil _ _ _, Below.refl _ _, by omega, by simp, h0⟩
  case round =>
    obtain ⟨k, acc, rfl, hown, hbel, hk, hal, hrel⟩ := hrel
    have hsz := hbel.size
    by_cases hlt : k < s.size
    · have q1 : ((s[k].toNat : Int) == 10) = decide (s[k] = 10) := u8k 10 (by decide)
      have q2 : ((s[k].toNat : Int) == 13) = decide (s[k] = 13) := u8k 13 (by decide)
      by_cases h1 : s[k] = 10
      · rw [decide_eq_true h1] at q1
        have hd := unf_skip hrel hlt (.inl h1)
        clear hrel q2 h1
        go_wp2
        go_roundw
        case rel => exact ⟨k + 1, _, by go_num, hown, hbel, by omega, by omega, hd⟩
        case measure => simp [intOf]; omega
      · rw [decide_eq_false h1] at q1
        by_cases h2 : s[k] = 13
        · rw [decide_eq_true h2] at q2
          by_cases h3 : k + 1 < s.size
          · have q3 : ((s[k + 1].toNat : Int) == 10) = decide (s[k + 1] = 10) := u8k 10 (by decide)
            have z1 : decide ((k : Int) + 1 < (s.size : Int)) = true := decide_eq_true (by omega)
            by_cases h4 : s[k + 1] = 10
            · rw [decide_eq_true h4] at q3
              have hd := unf_skip hrel hlt (.inr ⟨h2, h3, h4⟩)
              clear hrel h1 h2 h4
              go_wp2
              go_roundw
              case rel => exact ⟨k + 1, _, by go_num, hown, hbel, by omega, by omega, hd⟩
              case measure => simp [intOf]; omega
            · rw [decide_eq_false h4] at q3
              have hd := unf_keep hrel hlt h1 (fun _ _ => h4)
              clear hrel h1 h2 h4
              go_wp2_with (at_builtin; refine append_bytes _ rfl (.tmp 35) (.tmp 39) bsl rfl w.heap.size _ _ rfl (hown.alloc _) ⟨_, 0, none⟩ 1 1 [_] rfl rfl (cells_new _ _ _) (by first | omega | (simp; done) | (simp; omega)) (by first | omega | (simp; done) | (simp; omega)) ?_; intro v1 w1 hown1 hg1; have hb1 := Below_grown (hbel.alloc hsz _) (hown.alloc _) hg1 (by first | omega | (simp; done) | (simp; omega)); have hz1 := hb1.size; clear hg1)
              go_roundw
              case rel => exact ⟨k + 1, _, by go_num, hown1, hb1, by omega, by simp; omega, hd⟩
              case measure => simp [intOf]; omega
          · have hd := unf_keep hrel hlt h1 (fun _ h => absurd h h3)
            have z1 : decide ((k : Int) + 1 < (s.size : Int)) = false := decide_eq_false (by omega)
            clear hrel h1 h2
            go_wp2_with (at_builtin; refine append_bytes _ rfl (.tmp 35) (.tmp 39) bsl rfl w.heap.size _ _ rfl (hown.alloc _) ⟨_, 0, none⟩ 1 1 [_] rfl rfl (cells_new _ _ _) (by first | omega | (simp; done) | (simp; omega)) (by first | omega | (simp; done) | (simp; omega)) ?_; intro v1 w1 hown1 hg1; have hb1 := Below_grown (hbel.alloc hsz _) (hown.alloc _) hg1 (by first | omega | (simp; done) | (simp; omega)); have hz1 := hb1.size; clear hg1)
            go_roundw
            case rel => exact ⟨k + 1, _, by go_num, hown1, hb1, by omega, by simp; omega, hd⟩
            case measure => simp [intOf]; omega
        · rw [decide_eq_false h2] at q2
          have hd := unf_keep hrel hlt h1 (fun e => absurd e h2)
          clear hrel h1 h2
          go_wp2_with (at_builtin; refine append_bytes _ rfl (.tmp 35) (.tmp 39) bsl rfl w.heap.size _ _ rfl (hown.alloc _) ⟨_, 0, none⟩ 1 1 [_] rfl rfl (cells_new _ _ _) (by first | omega | (simp; done) | (simp; omega)) (by first | omega | (simp; done) | (simp; omega)) ?_; intro v1 w1 hown1 hg1; have hb1 := Below_grown (hbel.alloc hsz _) (hown.alloc _) hg1 (by first | omega | (simp; done) | (simp; omega)); have hz1 := hb1.size; clear hg1)
          go_roundw
          case rel => exact ⟨k + 1, _, by go_num, hown1, hb1, by omega, by simp; omega, hd⟩
          case measure => simp [intOf]; omega
    · have H := unf_end hrel hlt
      subst H
      have hcv := run_string_owned (P := Tryz.prog) (ts := 9) bsl Tryz.underlying9 hown
      clear hrel
      go_wp2
      go_ret
      exact ⟨rfl, hbel⟩
set_option maxHeartbeats 1000000 in
set_option maxRecDepth 100000 in
theorem rright_any (s : ByteArray) (w : World) (hs : s.size ≤ 100000000) : Calls Tryz.prog 32 #[.string s] w fun e w' => e = .returned (.bool (rightB s.data.toList)) ∧ w = w' := by
  have hR : rightB s.data.toList = (!s.data.toList.isEmpty && s.data.toList.all okc) := rfl
  rw [hR]
  have hst : Hid ((tl s 0).all okc = s.data.toList.all okc) := by show _ = _; rw [tl_zero]
  have hn : decide ((0 : Int) < (s.size : Int)) = !s.data.toList.isEmpty := by
    have hl := dataL s
    cases h : s.data.toList with
    | nil => rw [h] at hl; simp at hl; rw [← hl]; rfl
    | cons a r => rw [h, List.length_cons] at hl; rw [decide_eq_true (by omega)]; rfl
  rw [← hn]
  generalize s.data.toList.all okc = X at hst ⊢
  clear hR hn
  go_enter Tryz.func32, Tryz.ntmps32
  go_wp2
  go_loop [3] (fun iv => ∃ k : Nat, k ≤ s.size ∧ iv = .int .i64 k ∧ Hid ((tl s k).all okc = X)) (fun iv => s.size - (intOf iv).toNat)
  case atStart => exact ⟨0, by omega, by first | rfl | trivial, hst⟩
  case round =>
    clear hst
    obtain ⟨k, hk, rfl, hrel⟩ := hrel
    by_cases hlt : k < s.size
    · obtain ⟨s1, s2⟩ := okAll_step hrel hlt
      have qc : ((s[k].toNat : Int) == 58) = decide (s[k] = 58) := u8k 58 (by decide)
      cases hp : okc s[k] with
      | true =>
        obtain ⟨h1, h2, h3⟩ := okc_true hp
        have hd := s1 hp
        rw [decide_eq_false h3] at qc
        have q1 : decide ((s[k].toNat : Int) < 33) = false := decide_eq_false (by omega)
        have q2 : decide ((126 : Int) < (s[k].toNat : Int)) = false := decide_eq_false (by omega)
        clear s1 s2 hrel hp h3
        go_wp2
        go_round
        case rel => exact ⟨k + 1, by omega, by go_num, hd⟩
        case measure => simp [intOf]; omega
      | false =>
        obtain rfl := s2 hp
        rcases okc_false hp with h1 | ⟨h1, h2⟩ | ⟨h1, h2, h3⟩
        · have q1 : decide ((s[k].toNat : Int) < 33) = true := decide_eq_true (by omega)
          clear s1 s2 hrel hp qc
          go_wp2
          go_ret
          exact ⟨by simp, rfl⟩
        · have q1 : decide ((s[k].toNat : Int) < 33) = false := decide_eq_false (by omega)
          have q2 : decide ((126 : Int) < (s[k].toNat : Int)) = true := decide_eq_true (by omega)
          clear s1 s2 hrel hp qc
          go_wp2
          go_ret
          exact ⟨by simp, rfl⟩
        · rw [decide_eq_true h3] at qc
          have q1 : decide ((s[k].toNat : Int) < 33) = false := decide_eq_false (by omega)
          have q2 : decide ((126 : Int) < (s[k].toNat : Int)) = false := decide_eq_false (by omega)
          clear s1 s2 hrel hp h3
          go_wp2
          go_ret
          exact ⟨by simp, rfl⟩
    · obtain rfl := okAll_end hrel hlt
      clear hrel
      go_wp2
      go_ret
      exact ⟨by simp, rfl⟩
end Go.Proofs.YthchklbnkojkgaaGreatDoor
