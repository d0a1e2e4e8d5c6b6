/- Walks of the reference pouchref04: small, kind. -/
import Derived.Test.YtafmldooephmaaaDoorR04f
import Derived.Test.YtafmldooephmaaaDoorCsP
namespace Go.Proofs.YtafmldooephmaaaDoor
open Go.RowKit Pk U8 Cs

theorem b8_low4 {c : UInt8} (h : c.toNat ≤ 90) : b8 ((c.toNat : Int) + 32) = c + 32 := by
  apply UInt8.toNat_inj.1
  have := b8_toNat ((c.toNat : Int) + 32) (by omega) (by omega)
  rw [UInt8.toNat_add]
  have e : (32 : UInt8).toNat = 32 := rfl
  rw [e]
  omega
theorem lowR4_step {s : ByteArray} {k : Nat} {acc X : List UInt8} {d : UInt8} (h : Hid (acc ++ (tl s k).map Su.lowc = X)) (hk : k < s.size) (hd : Su.lowc s[k] = d) : Hid (acc ++ [d] ++ (tl s (k + 1)).map Su.lowc = X) := by
  have e := h.out
  rw [tl_cons s k hk, List.map_cons, hd] at e
  show _ = _
  rw [← e]; simp
theorem lowR4_end {s : ByteArray} {k : Nat} {acc X : List UInt8} (h : Hid (acc ++ (tl s k).map Su.lowc = X)) (hk : ¬ k < s.size) : acc = X := by
  have e := h.out
  rw [tl_end s k (by omega)] at e
  simpa using e
set_option maxHeartbeats 1000000 in
set_option maxRecDepth 100000 in
theorem small4_any (s : ByteArray) (w : World) (hs : s.size ≤ 10000000) :
    Calls Tryd.prog 89 #[.string s] w fun e w' => e = .returned (.string ⟨(s.data.toList.map Su.lowc).toArray⟩) ∧ Below w.heap.size w w' := by
  obtain ⟨X, hX⟩ : ∃ X, X = s.data.toList.map Su.lowc := ⟨_, rfl⟩
  have h0 : Hid (([] : List UInt8) ++ (tl s 0).map Su.lowc = X) := by show _ = _; rw [hX, tl_zero]; rfl
  rw [← hX]
  clear hX
  go_enter Tryd.func89, Tryd.ntmps89
  go_wp2
  go_loopw [3, 4] (fun v i wr => ∃ (k : Nat) (acc : List UInt8), i = .int .i64 k ∧ ownsB wr w.heap.size 5 v acc ∧ Below w.heap.size w wr ∧ k ≤ s.size ∧ acc.length ≤ k ∧ Hid (acc ++ (tl s k).map Su.lowc = X)) (fun _ i _ => s.size - (intOf i).toNat)
  case atStart => exact ⟨0, [], rfl, ownsB.nil _ _ _, Below.refl _ _, by omega, by simp, h0⟩
  case round =>
    obtain ⟨k, acc, rfl, hown, hbel, hk, hal, hrel⟩ := hrel
    have hsz := hbel.size
    by_cases hlt : k < s.size
    · have hc := s[k].toNat_lt
      by_cases h1 : 65 ≤ s[k].toNat
      · by_cases h2 : s[k].toNat ≤ 90
        · have hd := lowR4_step (d := b8 ((s[k].toNat : Int) + 32)) hrel hlt (by rw [b8_low4 h2]; unfold Su.lowc; rw [if_pos ⟨h1, h2⟩])
          clear hrel
          go_wp2_with (at_builtin; refine append_bytes _ rfl (.tmp 23) (.tmp 25) bsl04 rfl w.heap.size _ _ rfl (hown.alloc _) ⟨_, 0, none⟩ 1 1 [b8 _] rfl rfl (cells_byte _ _ _ (by omega) (by omega)) (by first | omega | (simp; done) | (simp; omega)) (by first | omega | (simp; done) | (simp; omega)) ?_; intro v1 w1 hown1 hg1; have hb1 := Below_grown (hbel.alloc hsz _) (hown.alloc _) hg1 (by first | omega | (simp; done) | (simp; omega)); have hz1 := hb1.size; clear hg1)
          go_roundw
          case rel => exact ⟨k + 1, _, by go_num, hown1, hb1, by omega, by simp; omega, hd⟩
          case measure => simp [intOf]; omega
        · have hd := lowR4_step (d := s[k]) hrel hlt (by unfold Su.lowc; rw [if_neg (by omega)])
          clear hrel
          go_wp2_with (at_builtin; refine append_bytes _ rfl (.tmp 23) (.tmp 25) bsl04 rfl w.heap.size _ _ rfl (hown.alloc _) ⟨_, 0, none⟩ 1 1 [_] rfl rfl (cells_new _ _ _) (by first | omega | (simp; done) | (simp; omega)) (by first | omega | (simp; done) | (simp; omega)) ?_; intro v1 w1 hown1 hg1; have hb1 := Below_grown (hbel.alloc hsz _) (hown.alloc _) hg1 (by first | omega | (simp; done) | (simp; omega)); have hz1 := hb1.size; clear hg1)
          go_roundw
          case rel => exact ⟨k + 1, _, by go_num, hown1, hb1, by omega, by simp; omega, hd⟩
          case measure => simp [intOf]; omega
      · have hd := lowR4_step (d := s[k]) hrel hlt (by unfold Su.lowc; rw [if_neg (by omega)])
        clear hrel
        go_wp2_with (at_builtin; refine append_bytes _ rfl (.tmp 23) (.tmp 25) bsl04 rfl w.heap.size _ _ rfl (hown.alloc _) ⟨_, 0, none⟩ 1 1 [_] rfl rfl (cells_new _ _ _) (by first | omega | (simp; done) | (simp; omega)) (by first | omega | (simp; done) | (simp; omega)) ?_; intro v1 w1 hown1 hg1; have hb1 := Below_grown (hbel.alloc hsz _) (hown.alloc _) hg1 (by first | omega | (simp; done) | (simp; omega)); have hz1 := hb1.size; clear hg1)
        go_roundw
        case rel => exact ⟨k + 1, _, by go_num, hown1, hb1, by omega, by simp; omega, hd⟩
        case measure => simp [intOf]; omega
    · have H := Lib.hid (lowR4_end hrel hlt)
      have hcv := run_string_owned (P := Tryd.prog) (ts := 9) bsl04 Tryd.underlying9 hown
      clear hrel
      go_wp2
      go_ret
      exact ⟨congrArg (fun l : List UInt8 => Ending.returned (.string ⟨l.toArray⟩)) H.out, hbel⟩
theorem str_eq (n k : List UInt8) : ((⟨n.toArray⟩ : ByteArray).toList == k) = decide (n = k) := by
  rw [Lib.toList_data]
  show (n == k) = _
  by_cases h : n = k
  · subst h; simp
  · rw [decide_eq_false h]; simp [h]
set_option maxHeartbeats 4000000 in
set_option maxRecDepth 100000 in
theorem kind4_any (s : ByteArray) (w : World) (hs : s.size ≤ 10000000) :
    Calls Tryd.prog 72 #[.string s] w fun e w' => e = .returned (.int .i64 (kindL s.data.toList)) ∧ Below w.heap.size w w' := by
  have hsm := small4_any s w hs
  have e1 := str_eq (s.data.toList.map Su.lowc) usascii
  have e2 := str_eq (s.data.toList.map Su.lowc) ascii
  have e3 := str_eq (s.data.toList.map Su.lowc) utf_8
  have e4 := str_eq (s.data.toList.map Su.lowc) utf8
  have e5 := str_eq (s.data.toList.map Su.lowc) iso
  have e6 := str_eq (s.data.toList.map Su.lowc) latin1
  have e7 := str_eq (s.data.toList.map Su.lowc) win52
  have e8 := str_eq (s.data.toList.map Su.lowc) cp52
  have hk : kindL s.data.toList = (let n := s.data.toList.map Su.lowc; if n = usascii ∨ n = ascii then 1 else if n = utf_8 ∨ n = utf8 then 2 else if n = iso ∨ n = latin1 then 3 else if n = win52 ∨ n = cp52 then 4 else 0) := rfl
  rw [hk]
  clear hk
  simp only
  generalize s.data.toList.map Su.lowc = n at *
  obtain ⟨N, hN⟩ : ∃ N : ByteArray, N = ⟨n.toArray⟩ := ⟨_, rfl⟩
  rw [← hN] at hsm e1 e2 e3 e4 e5 e6 e7 e8
  unfold usascii at e1 ⊢; unfold ascii at e2 ⊢; unfold utf_8 at e3 ⊢; unfold utf8 at e4 ⊢; unfold iso at e5 ⊢; unfold latin1 at e6 ⊢; unfold win52 at e7 ⊢; unfold cp52 at e8 ⊢
  have HS := Lib.hid hsm
  clear hsm hN
  by_cases h1 : n = [117, 115, 45, 97, 115, 99, 105, 105]
  · rw [decide_eq_true h1] at e1
    have hv : ∀ x : Nat, x = 1 → ((x : Nat) : Int) = 1 := fun x h => by rw [h]; rfl
    rw [hv _ (by simp [h1])]
    clear e2 e3 e4 e5 e6 e7 e8
    clear hv h1
    go_enter Tryd.func72, Tryd.ntmps72
    go_wp2_with (go_at_call 89; (with_reducible refine (HS.out).mono ?_); rintro e w1 ⟨rfl, hb1⟩)
    go_ret
    exact ⟨rfl, hb1⟩
  rw [decide_eq_false h1] at e1
  by_cases h2 : n = [97, 115, 99, 105, 105]
  · rw [decide_eq_true h2] at e2
    have hv : ∀ x : Nat, x = 1 → ((x : Nat) : Int) = 1 := fun x h => by rw [h]; rfl
    rw [hv _ (by simp [h1, h2])]
    clear e3 e4 e5 e6 e7 e8
    clear hv h1 h2
    go_enter Tryd.func72, Tryd.ntmps72
    go_wp2_with (go_at_call 89; (with_reducible refine (HS.out).mono ?_); rintro e w1 ⟨rfl, hb1⟩)
    go_ret
    exact ⟨rfl, hb1⟩
  rw [decide_eq_false h2] at e2
  by_cases h3 : n = [117, 116, 102, 45, 56]
  · rw [decide_eq_true h3] at e3
    have hv : ∀ x : Nat, x = 2 → ((x : Nat) : Int) = 2 := fun x h => by rw [h]; rfl
    rw [hv _ (by simp [h1, h2, h3])]
    clear e4 e5 e6 e7 e8
    clear hv h1 h2 h3
    go_enter Tryd.func72, Tryd.ntmps72
    go_wp2_with (go_at_call 89; (with_reducible refine (HS.out).mono ?_); rintro e w1 ⟨rfl, hb1⟩)
    go_ret
    exact ⟨rfl, hb1⟩
  rw [decide_eq_false h3] at e3
  by_cases h4 : n = [117, 116, 102, 56]
  · rw [decide_eq_true h4] at e4
    have hv : ∀ x : Nat, x = 2 → ((x : Nat) : Int) = 2 := fun x h => by rw [h]; rfl
    rw [hv _ (by simp [h1, h2, h3, h4])]
    clear e5 e6 e7 e8
    clear hv h1 h2 h3 h4
    go_enter Tryd.func72, Tryd.ntmps72
    go_wp2_with (go_at_call 89; (with_reducible refine (HS.out).mono ?_); rintro e w1 ⟨rfl, hb1⟩)
    go_ret
    exact ⟨rfl, hb1⟩
  rw [decide_eq_false h4] at e4
  by_cases h5 : n = [105, 115, 111, 45, 56, 56, 53, 57, 45, 49]
  · rw [decide_eq_true h5] at e5
    have hv : ∀ x : Nat, x = 3 → ((x : Nat) : Int) = 3 := fun x h => by rw [h]; rfl
    rw [hv _ (by simp [h1, h2, h3, h4, h5])]
    clear e6 e7 e8
    clear hv h1 h2 h3 h4 h5
    go_enter Tryd.func72, Tryd.ntmps72
    go_wp2_with (go_at_call 89; (with_reducible refine (HS.out).mono ?_); rintro e w1 ⟨rfl, hb1⟩)
    go_ret
    exact ⟨rfl, hb1⟩
  rw [decide_eq_false h5] at e5
  by_cases h6 : n = [108, 97, 116, 105, 110, 49]
  · rw [decide_eq_true h6] at e6
    have hv : ∀ x : Nat, x = 3 → ((x : Nat) : Int) = 3 := fun x h => by rw [h]; rfl
    rw [hv _ (by simp [h1, h2, h3, h4, h5, h6])]
    clear e7 e8
    clear hv h1 h2 h3 h4 h5 h6
    go_enter Tryd.func72, Tryd.ntmps72
    go_wp2_with (go_at_call 89; (with_reducible refine (HS.out).mono ?_); rintro e w1 ⟨rfl, hb1⟩)
    go_ret
    exact ⟨rfl, hb1⟩
  rw [decide_eq_false h6] at e6
  by_cases h7 : n = [119, 105, 110, 100, 111, 119, 115, 45, 49, 50, 53, 50]
  · rw [decide_eq_true h7] at e7
    have hv : ∀ x : Nat, x = 4 → ((x : Nat) : Int) = 4 := fun x h => by rw [h]; rfl
    rw [hv _ (by simp [h1, h2, h3, h4, h5, h6, h7])]
    clear e8
    clear hv h1 h2 h3 h4 h5 h6 h7
    go_enter Tryd.func72, Tryd.ntmps72
    go_wp2_with (go_at_call 89; (with_reducible refine (HS.out).mono ?_); rintro e w1 ⟨rfl, hb1⟩)
    go_ret
    exact ⟨rfl, hb1⟩
  rw [decide_eq_false h7] at e7
  by_cases h8 : n = [99, 112, 49, 50, 53, 50]
  · rw [decide_eq_true h8] at e8
    have hv : ∀ x : Nat, x = 4 → ((x : Nat) : Int) = 4 := fun x h => by rw [h]; rfl
    rw [hv _ (by simp [h1, h2, h3, h4, h5, h6, h7, h8])]
    clear hv h1 h2 h3 h4 h5 h6 h7 h8
    go_enter Tryd.func72, Tryd.ntmps72
    go_wp2_with (go_at_call 89; (with_reducible refine (HS.out).mono ?_); rintro e w1 ⟨rfl, hb1⟩)
    go_ret
    exact ⟨rfl, hb1⟩
  rw [decide_eq_false h8] at e8
  have hv : ∀ x : Nat, x = 0 → ((x : Nat) : Int) = 0 := fun x h => by rw [h]; rfl
  rw [hv _ (by simp [h1, h2, h3, h4, h5, h6, h7, h8])]
  clear hv h1 h2 h3 h4 h5 h6 h7 h8
  go_enter Tryd.func72, Tryd.ntmps72
  go_wp2_with (go_at_call 89; (with_reducible refine (HS.out).mono ?_); rintro e w1 ⟨rfl, hb1⟩)
  go_ret
  exact ⟨rfl, hb1⟩
end Go.Proofs.YtafmldooephmaaaDoor
