/- Walks: the reference of layer 6: Qp. -/
import Derived.Test.YtgkbjgmcgbnnaaaDoorRef6d
import Derived.Test.YtgkbjgmcgbnnaaaDoorSpec6b
namespace Go.Proofs.YtgkbjgmcgbnnaaaDoor
open Go.RowKit Pk C6 Hx

/-- the round's state: the output so far, the characters on its line, what is left -/
def QpIs (s : ByteArray) (k : Nat) (acc : List UInt8) (n : Int) : Prop := acc ++ qpR n (tl s k) = qpR 0 (tl s 0)
theorem qp_crlf {s : ByteArray} {k : Nat} {acc : List UInt8} {n : Int} (h : QpIs s k acc n) (he : endsL (tl s k) = true) : QpIs s (k + 2) (acc ++ [13, 10]) 0 := by
  unfold QpIs at *
  rw [qpR_line _ _ (.inr trivial), if_pos he] at h
  rw [← h]
  have : (tl s k).drop 2 = tl s (k + 2) := by unfold tl; rw [List.drop_drop]
  rw [this]; simp
theorem qp_char {s : ByteArray} {k : Nat} {acc : List UInt8} {n : Int} (h : QpIs s k acc n) (hk : k < s.size) (he : endsL (tl s k) = false) {last : Bool} (hl : last = (decide (k + 1 = s.size) || endsL (tl s (k + 1)))) {p : List UInt8} (hp : qpc s[k] last = p) :
    (n + p.length > 75 → QpIs s (k + 1) (acc ++ [61, 13, 10] ++ p) p.length) ∧ (¬ n + p.length > 75 → QpIs s (k + 1) (acc ++ p) (n + p.length)) := by
  unfold QpIs at *
  by_cases h1 : k + 1 < s.size
  · have h2 : ¬ k + 1 = s.size := by omega
    simp only [h2, decide_false, Bool.false_or] at hl
    rw [tl_cons s (k + 1) h1] at hl
    rw [tl_cons s k hk, tl_cons s (k + 1) h1, qpR] at h
    rw [tl_cons s k hk, tl_cons s (k + 1) h1] at he
    rw [if_neg (by simp [he])] at h
    rw [← hl, hp] at h
    rw [tl_cons s (k + 1) h1]
    constructor
    · intro c; rw [if_pos c] at h; rw [← h]; simp
    · intro c; rw [if_neg c] at h; rw [← h]; simp
  · have h2 : k + 1 = s.size := by omega
    simp only [h2, decide_true, Bool.true_or] at hl
    subst hl
    rw [tl_cons s k hk, tl_end s (k + 1) (by omega), qpR, hp] at h
    rw [tl_end s (k + 1) (by omega)]
    constructor
    · intro c; rw [if_pos c] at h; rw [← h]; simp [qpR]
    · intro c; rw [if_neg c] at h; rw [← h]; simp [qpR]
theorem qp_end {s : ByteArray} {k : Nat} {acc : List UInt8} {n : Int} (h : QpIs s k acc n) (hk : ¬ k < s.size) : acc = qpR 0 s.data.toList := by
  unfold QpIs at h
  rw [tl_end s k (by omega), tl_zero] at h
  simpa [qpR] using h
theorem endsL_size {s : ByteArray} {k : Nat} (h : endsL (tl s k) = true) : k + 1 < s.size := by
  rcases Nat.lt_or_ge (k + 1) s.size with h' | h'
  · exact h'
  · rw [ends_out (by omega)] at h; cases h
/-- which bytes are escaped -/
def EscP (n : Int) (last : Bool) : Prop := (n < 33 ∨ 126 < n ∨ n = 61) ∧ ((n ≠ 32 ∧ n ≠ 9) ∨ last = true)
theorem qpc_yes {c : UInt8} {last : Bool} (h : EscP c.toNat last) : qpc c last = [61, hexC ((c.toNat : Int) / 16), hexC ((c.toNat : Int) % 16)] := by unfold qpc; unfold EscP at h; rw [if_pos h]; rfl
theorem qpc_no {c : UInt8} {last : Bool} (h : ¬ EscP c.toNat last) : qpc c last = [c] := by unfold qpc; unfold EscP at h; rw [if_neg h]
theorem esc_cases {n : Int} (last : Bool) (h0 : 0 ≤ n) : (EscP n last ∧ ((n < 9 ∧ (n == 32) = false ∧ (n == 9) = false) ∨ ((9 < n ∧ n < 32) ∧ (n == 32) = false ∧ (n == 9) = false) ∨ ((62 ≤ n + 1 ∧ n ≤ 61 ∧ (n == 61) = true) ∧ (n == 32) = false ∧ (n == 9) = false) ∨ (126 < n ∧ (n == 32) = false ∧ (n == 9) = false) ∨ ((n == 32) = true ∧ n < 33 ∧ last = true) ∨ ((n < 10 ∧ (n == 32) = false) ∧ (n == 9) = true ∧ last = true))) ∨
    (¬ EscP n last ∧ ((33 ≤ n ∧ n < 61 ∧ (n == 61) = false) ∨ (61 < n ∧ n ≤ 126 ∧ (n == 61) = false) ∨ ((n == 32) = true ∧ n < 33 ∧ last = false) ∨ ((n < 10 ∧ (n == 32) = false) ∧ (n == 9) = true ∧ last = false))) := by
  unfold EscP
  simp only [beq_iff_eq, beq_eq_false_iff_ne]
  cases last <;> simp <;> omega

theorem cells_after {W w1 : World} {g : Nat} {p : List UInt8} {o : Obj} {v : Value} (h : ∀ j u, (Lib.byteCells p)[j]? = some u → W.cell? ((⟨g, 0, none⟩ : Addr).add j) = some u) (hl : g < W.heap.size) (hg : (W.alloc o).grownBy w1 v.ownBlock) (hne : v.ownBlock ≠ some g) :
    ∀ j u, (Lib.byteCells p)[j]? = some u → w1.cell? ((⟨g, 0, none⟩ : Addr).add j) = some u := by
  intro j u hj
  have h1 := h j u hj
  rw [Addr.add_lit] at h1 ⊢
  refine (World.cell?_of_block ?_).trans h1
  show w1.heap[g]? = W.heap[g]?
  rw [hg.block g (by simp; omega) (Ne.symm hne)]
  exact Below.heap_alloc W o g hl
theorem cells_newg (w : World) (l : List Value) (e : TypeId) (g : Nat) (hg : g = w.heap.size) : ∀ j u, l[j]? = some u → (w.alloc (.cells l.toArray e)).cell? ((⟨g, 0, none⟩ : Addr).add j) = some u := by
  subst hg; exact cells_new _ _ _
theorem own_ne {w : World} {B : Nat} {e : TypeId} {v : Value} {l : List UInt8} (h : ownsB w B e v l) {g : Nat} (hg : w.heap.size ≤ g) : v.ownBlock ≠ some g := fun e => by have := (World.ownsRow.lt h g e).2; omega
set_option maxHeartbeats 4000000 in
set_option maxRecDepth 100000 in
theorem qpRef_any (s : ByteArray) (w : World) (hs : s.size ≤ 1000000) :
    Calls Tryd.prog 15 #[.string s] w fun e w' => e = .returned (.string ⟨(qpR 0 s.data.toList).toArray⟩) ∧ Below w.heap.size w w' := by
  go_enter Tryd.func15, Tryd.ntmps15
  go_wp2
  go_loopw [3, 4, 5] (fun v nv i wr => ∃ (k : Nat) (acc : List UInt8) (n : Int), i = .int .i64 k ∧ nv = .int .i64 n ∧ 0 ≤ n ∧ n ≤ 75 ∧ ownsB wr w.heap.size 5 v acc ∧ Below w.heap.size w wr ∧ k ≤ s.size ∧ acc.length ≤ 6 * k ∧ QpIs s k acc n) (fun _ _ i _ => s.size - (intOf i).toNat)
  case atStart => exact ⟨0, [], 0, rfl, rfl, by omega, by omega, ownsB.nil _ _ _, Below.refl _ _, by omega, by simp, rfl⟩
  case round =>
    obtain ⟨k, acc, n, rfl, rfl, hn0, hn1, hown, hbel, hk, hal, hrel⟩ := hrel
    have hsz := hbel.size
    by_cases hlt : k < s.size
    · by_cases he : endsL (tl s k) = true
      · have h1 := endsL_size he
        have hst := qp_crlf hrel he
        clear hrel
        go_wp2_with (first
            | (go_at_call 35; refine (ends_any _ _ _ (by omega)).mono ?_; rintro e w' ⟨rfl, rfl⟩)
            | (at_builtin; refine append_bytes _ rfl (.tmp 20) (.tmp 21) bsl rfl w.heap.size _ _ rfl (hown.alloc _) ⟨_, 0, none⟩ 2 2 [13, 10] rfl rfl (cells_new _ _ _) (by first | omega | (simp; done) | (simp; omega)) (by first | omega | (simp; done) | (simp; omega)) ?_; intro v1 w1 hown1 hg1; have hb1 := Below_grown (hbel.alloc hsz _) (hown.alloc _) hg1 (by first | omega | (simp; done) | (simp; omega)); have hz1 := hb1.size; clear hg1))
        go_roundw
        case rel => exact ⟨k + 2, _, 0, by go_num, rfl, by omega, by omega, hown1, hb1, by omega, by simp; omega, hst⟩
        case measure => simp [intOf]; omega
      · have he' : endsL (tl s k) = false := (Bool.not_eq_true _).mp he
        clear he
        have hb := s[k].toNat_lt
        obtain ⟨last, hlast⟩ : ∃ last : Bool, last = (decide (k + 1 = s.size) || endsL (tl s (k + 1))) := ⟨_, rfl⟩
        have HL := Lib.hid hlast
        clear hlast
        go_upto_region 12 with (go_at_call 35; refine (ends_any _ _ _ (by omega)).mono ?_; rintro e w' ⟨rfl, rfl⟩)
        go_cut [8] (fun v wc => v = .bool last ∧ wc = wr)
        case first =>
          have hl := HL.out
          by_cases h1 : k + 1 = s.size
          · have hq : ((k : Int) + 1 == (s.size : Int)) = true := beq_iff_eq.2 (by omega)
            have : last = true := by rw [hl]; simp [h1]
            subst this
            clear hl h1
            go_wp2_with fail
            go_meet
            exact ⟨rfl, rfl⟩
          · have hq : ((k : Int) + 1 == (s.size : Int)) = false := beq_eq_false_iff_ne.2 (by omega)
            have h2 : last = endsL (tl s (k + 1)) := by rw [hl]; simp [h1]
            have H2 := Lib.hid h2
            clear hl h1 h2
            have hends := fun w => ends_any s (k + 1) w (by omega)
            rw [← H2.out] at hends
            have HE := Lib.hid hends
            clear hends
            go_wp2_with (go_at_call 35; refine (HE.out _).mono ?_; rintro e w' ⟨rfl, rfl⟩)
            go_meet
            exact ⟨rfl, rfl⟩
        case rest =>
          obtain ⟨rfl, rfl⟩ := hcut
          obtain ⟨p, hp⟩ : ∃ p, p = qpc s[k] last := ⟨_, rfl⟩
          have HP := Lib.hid hp
          have hst := qp_char hrel hlt he' HL.out hp.symm
          have hst1 := Lib.hid hst.1
          have hst2 := Lib.hid hst.2
          clear hp hst hrel he'
          rcases esc_cases (n := s[k].toNat) last (by omega) with ⟨hx, hc⟩ | ⟨hx, hc⟩
          · rcases hc with ⟨a, c1, c2⟩ | ⟨⟨a, b⟩, c1, c2⟩ | ⟨⟨a, b, c⟩, c1, c2⟩ | ⟨a, c1, c2⟩ | ⟨hq, b, rfl⟩ | ⟨⟨b, c1⟩, hq, rfl⟩
            iterate 4
              focus
                have hpv := HP.out.trans (qpc_yes hx)
                subst hpv
                clear hx HL HP
                by_cases hgt : n + 3 > 75
                · have HG : 75 < n + 3 := by omega
                  have hst := hst1.out (by simp; omega)
                  clear hst1 hst2 hgt
                  go_wp2_with (first | (go_at_call 36; refine (hex_any _ _ (by omega) (by omega)).mono ?_; rintro e w' ⟨rfl, rfl⟩) | (at_builtin; refine append_bytes _ rfl (.tmp 72) (.tmp 73) bsl rfl w.heap.size _ _ rfl (((hown.alloc _).alloc _).alloc _) ⟨_, 0, none⟩ 3 3 [61, 13, 10] rfl rfl (cells_newg _ _ _ _ (by first | omega | rfl | (simp; done) | (simp; omega))) (by first | omega | (simp; done) | (simp; omega)) (by first | omega | (simp; done) | (simp; omega)) ?_; intro v1 w1 hown1 hg1; have hb1 := Below_grown (((hbel.alloc hsz _).alloc (by first | omega | rfl | (simp; done) | (simp; omega)) _).alloc (by first | omega | rfl | (simp; done) | (simp; omega)) _) (((hown.alloc _).alloc _).alloc _) hg1 (by first | omega | (simp; done) | (simp; omega)); have hz1 := hb1.size; have HC1 : Hid (∀ j u, (Lib.byteCells [61, hexC ((s[k].toNat : Int) / 16), hexC ((s[k].toNat : Int) % 16)])[j]? = some u → w1.cell? ((⟨wc.heap.size + 1, 0, none⟩ : Addr).add j) = some u) := Lib.hid (cells_after (cells_newg _ _ _ (wc.heap.size + 1) (by first | omega | rfl | (simp; done) | (simp; omega))) (by first | omega | rfl | (simp; done) | (simp; omega)) hg1 (own_ne hown (by first | omega | rfl | (simp; done) | (simp; omega)))); clear hg1) | (at_builtin; refine append_bytes _ rfl (.tmp 75) (.tmp 76) bsl rfl w.heap.size _ _ rfl hown1 ⟨_, 0, none⟩ 3 3 [61, hexC ((s[k].toNat : Int) / 16), hexC ((s[k].toNat : Int) % 16)] rfl rfl HC1.out (by first | omega | (simp; done) | (simp; omega)) (by first | omega | (simp; done) | (simp; omega)) ?_; intro v2 w2 hown2 hg2; have hb2 := Below_grown hb1 hown1 hg2 (by first | omega | (simp; done) | (simp; omega)); clear hg2))
                  go_roundw
                  case rel => exact ⟨k + 1, _, _, by go_num, rfl, by first | omega | (simp; omega), by first | omega | (simp; omega), hown2, hb2, by omega, by first | omega | (simp; omega), hst⟩
                  case measure => simp [intOf]; omega
                · have HG : n + 3 ≤ 75 := by omega
                  have hst := hst2.out (by simp; omega)
                  clear hst1 hst2 hgt
                  go_wp2_with (first | (go_at_call 36; refine (hex_any _ _ (by omega) (by omega)).mono ?_; rintro e w' ⟨rfl, rfl⟩) | (at_builtin; refine append_bytes _ rfl (.tmp 75) (.tmp 76) bsl rfl w.heap.size _ _ rfl ((hown.alloc _).alloc _) ⟨_, 0, none⟩ 3 3 [61, hexC ((s[k].toNat : Int) / 16), hexC ((s[k].toNat : Int) % 16)] rfl rfl (cells_newg _ _ _ _ (by first | omega | rfl | (simp; done) | (simp; omega))) (by first | omega | (simp; done) | (simp; omega)) (by first | omega | (simp; done) | (simp; omega)) ?_; intro v2 w2 hown2 hg2; have hb2 := Below_grown ((hbel.alloc hsz _).alloc (by first | omega | rfl | (simp; done) | (simp; omega)) _) ((hown.alloc _).alloc _) hg2 (by first | omega | (simp; done) | (simp; omega)); clear hg2))
                  go_roundw
                  case rel => exact ⟨k + 1, _, _, by go_num, rfl, by first | omega | (simp; omega), by first | omega | (simp; omega), hown2, hb2, by omega, by first | omega | (simp; omega), hst⟩
                  case measure => simp [intOf]; omega
            · have hv : (s[k].toNat : Int) = 32 := by simpa using hq
              have hv8 : s[k] = 32 := by rw [← UInt8.toNat_inj]; show s[k].toNat = 32; omega
              have hpv : p = [61, hexC 2, hexC 0] := HP.out.trans (by rw [hv8]; decide)
              clear hv8 hq b
              subst hpv
              clear hx HL HP
              by_cases hgt : n + 3 > 75
              · have HG : 75 < n + 3 := by omega
                have hst := hst1.out (by simp; omega)
                clear hst1 hst2 hgt
                rw [hv]
                go_wp2_with (first | (go_at_call 36; refine (hex_any _ _ (by omega) (by omega)).mono ?_; rintro e w' ⟨rfl, rfl⟩) | (at_builtin; refine append_bytes _ rfl (.tmp 72) (.tmp 73) bsl rfl w.heap.size _ _ rfl (((hown.alloc _).alloc _).alloc _) ⟨_, 0, none⟩ 3 3 [61, 13, 10] rfl rfl (cells_newg _ _ _ _ (by first | omega | rfl | (simp; done) | (simp; omega))) (by first | omega | (simp; done) | (simp; omega)) (by first | omega | (simp; done) | (simp; omega)) ?_; intro v1 w1 hown1 hg1; have hb1 := Below_grown (((hbel.alloc hsz _).alloc (by first | omega | rfl | (simp; done) | (simp; omega)) _).alloc (by first | omega | rfl | (simp; done) | (simp; omega)) _) (((hown.alloc _).alloc _).alloc _) hg1 (by first | omega | (simp; done) | (simp; omega)); have hz1 := hb1.size; have HC1 : Hid (∀ j u, (Lib.byteCells [61, hexC 2, hexC 0])[j]? = some u → w1.cell? ((⟨wc.heap.size + 1, 0, none⟩ : Addr).add j) = some u) := Lib.hid (cells_after (cells_newg _ _ _ (wc.heap.size + 1) (by first | omega | rfl | (simp; done) | (simp; omega))) (by first | omega | rfl | (simp; done) | (simp; omega)) hg1 (own_ne hown (by first | omega | rfl | (simp; done) | (simp; omega)))); clear hg1) | (at_builtin; refine append_bytes _ rfl (.tmp 75) (.tmp 76) bsl rfl w.heap.size _ _ rfl hown1 ⟨_, 0, none⟩ 3 3 [61, hexC 2, hexC 0] rfl rfl HC1.out (by first | omega | (simp; done) | (simp; omega)) (by first | omega | (simp; done) | (simp; omega)) ?_; intro v2 w2 hown2 hg2; have hb2 := Below_grown hb1 hown1 hg2 (by first | omega | (simp; done) | (simp; omega)); clear hg2))
                go_roundw
                case rel => exact ⟨k + 1, _, _, by go_num, rfl, by first | omega | (simp; omega), by first | omega | (simp; omega), hown2, hb2, by omega, by first | omega | (simp; omega), hst⟩
                case measure => simp [intOf]; omega
              · have HG : n + 3 ≤ 75 := by omega
                have hst := hst2.out (by simp; omega)
                clear hst1 hst2 hgt
                rw [hv]
                go_wp2_with (first | (go_at_call 36; refine (hex_any _ _ (by omega) (by omega)).mono ?_; rintro e w' ⟨rfl, rfl⟩) | (at_builtin; refine append_bytes _ rfl (.tmp 75) (.tmp 76) bsl rfl w.heap.size _ _ rfl ((hown.alloc _).alloc _) ⟨_, 0, none⟩ 3 3 [61, hexC 2, hexC 0] rfl rfl (cells_newg _ _ _ _ (by first | omega | rfl | (simp; done) | (simp; omega))) (by first | omega | (simp; done) | (simp; omega)) (by first | omega | (simp; done) | (simp; omega)) ?_; intro v2 w2 hown2 hg2; have hb2 := Below_grown ((hbel.alloc hsz _).alloc (by first | omega | rfl | (simp; done) | (simp; omega)) _) ((hown.alloc _).alloc _) hg2 (by first | omega | (simp; done) | (simp; omega)); clear hg2))
                go_roundw
                case rel => exact ⟨k + 1, _, _, by go_num, rfl, by first | omega | (simp; omega), by first | omega | (simp; omega), hown2, hb2, by omega, by first | omega | (simp; omega), hst⟩
                case measure => simp [intOf]; omega
            · have hv : (s[k].toNat : Int) = 9 := by simpa using hq
              have hv8 : s[k] = 9 := by rw [← UInt8.toNat_inj]; show s[k].toNat = 9; omega
              have hpv : p = [61, hexC 0, hexC 9] := HP.out.trans (by rw [hv8]; decide)
              clear hv8 hq b c1
              subst hpv
              clear hx HL HP
              by_cases hgt : n + 3 > 75
              · have HG : 75 < n + 3 := by omega
                have hst := hst1.out (by simp; omega)
                clear hst1 hst2 hgt
                rw [hv]
                go_wp2_with (first | (go_at_call 36; refine (hex_any _ _ (by omega) (by omega)).mono ?_; rintro e w' ⟨rfl, rfl⟩) | (at_builtin; refine append_bytes _ rfl (.tmp 72) (.tmp 73) bsl rfl w.heap.size _ _ rfl (((hown.alloc _).alloc _).alloc _) ⟨_, 0, none⟩ 3 3 [61, 13, 10] rfl rfl (cells_newg _ _ _ _ (by first | omega | rfl | (simp; done) | (simp; omega))) (by first | omega | (simp; done) | (simp; omega)) (by first | omega | (simp; done) | (simp; omega)) ?_; intro v1 w1 hown1 hg1; have hb1 := Below_grown (((hbel.alloc hsz _).alloc (by first | omega | rfl | (simp; done) | (simp; omega)) _).alloc (by first | omega | rfl | (simp; done) | (simp; omega)) _) (((hown.alloc _).alloc _).alloc _) hg1 (by first | omega | (simp; done) | (simp; omega)); have hz1 := hb1.size; have HC1 : Hid (∀ j u, (Lib.byteCells [61, hexC 0, hexC 9])[j]? = some u → w1.cell? ((⟨wc.heap.size + 1, 0, none⟩ : Addr).add j) = some u) := Lib.hid (cells_after (cells_newg _ _ _ (wc.heap.size + 1) (by first | omega | rfl | (simp; done) | (simp; omega))) (by first | omega | rfl | (simp; done) | (simp; omega)) hg1 (own_ne hown (by first | omega | rfl | (simp; done) | (simp; omega)))); clear hg1) | (at_builtin; refine append_bytes _ rfl (.tmp 75) (.tmp 76) bsl rfl w.heap.size _ _ rfl hown1 ⟨_, 0, none⟩ 3 3 [61, hexC 0, hexC 9] rfl rfl HC1.out (by first | omega | (simp; done) | (simp; omega)) (by first | omega | (simp; done) | (simp; omega)) ?_; intro v2 w2 hown2 hg2; have hb2 := Below_grown hb1 hown1 hg2 (by first | omega | (simp; done) | (simp; omega)); clear hg2))
                go_roundw
                case rel => exact ⟨k + 1, _, _, by go_num, rfl, by first | omega | (simp; omega), by first | omega | (simp; omega), hown2, hb2, by omega, by first | omega | (simp; omega), hst⟩
                case measure => simp [intOf]; omega
              · have HG : n + 3 ≤ 75 := by omega
                have hst := hst2.out (by simp; omega)
                clear hst1 hst2 hgt
                rw [hv]
                go_wp2_with (first | (go_at_call 36; refine (hex_any _ _ (by omega) (by omega)).mono ?_; rintro e w' ⟨rfl, rfl⟩) | (at_builtin; refine append_bytes _ rfl (.tmp 75) (.tmp 76) bsl rfl w.heap.size _ _ rfl ((hown.alloc _).alloc _) ⟨_, 0, none⟩ 3 3 [61, hexC 0, hexC 9] rfl rfl (cells_newg _ _ _ _ (by first | omega | rfl | (simp; done) | (simp; omega))) (by first | omega | (simp; done) | (simp; omega)) (by first | omega | (simp; done) | (simp; omega)) ?_; intro v2 w2 hown2 hg2; have hb2 := Below_grown ((hbel.alloc hsz _).alloc (by first | omega | rfl | (simp; done) | (simp; omega)) _) ((hown.alloc _).alloc _) hg2 (by first | omega | (simp; done) | (simp; omega)); clear hg2))
                go_roundw
                case rel => exact ⟨k + 1, _, _, by go_num, rfl, by first | omega | (simp; omega), by first | omega | (simp; omega), hown2, hb2, by omega, by first | omega | (simp; omega), hst⟩
                case measure => simp [intOf]; omega
          · rcases hc with ⟨a, b, c1⟩ | ⟨a, b, c1⟩ | ⟨hq, b, rfl⟩ | ⟨⟨b, c1⟩, hq, rfl⟩
            iterate 2
              focus
                have hpv := HP.out.trans (qpc_no hx)
                subst hpv
                clear hx HL HP
                by_cases hgt : n + 1 > 75
                · have HG : 75 < n + 1 := by omega
                  have hst := hst1.out (by simp; omega)
                  clear hst1 hst2 hgt
                  go_wp2_with (first | (at_builtin; refine append_bytes _ rfl (.tmp 72) (.tmp 73) bsl rfl w.heap.size _ _ rfl ((hown.alloc _).alloc _) ⟨_, 0, none⟩ 3 3 [61, 13, 10] rfl rfl (cells_newg _ _ _ _ (by first | omega | rfl | (simp; done) | (simp; omega))) (by first | omega | (simp; done) | (simp; omega)) (by first | omega | (simp; done) | (simp; omega)) ?_; intro v1 w1 hown1 hg1; have hb1 := Below_grown ((hbel.alloc hsz _).alloc (by first | omega | rfl | (simp; done) | (simp; omega)) _) ((hown.alloc _).alloc _) hg1 (by first | omega | (simp; done) | (simp; omega)); have hz1 := hb1.size; have HC1 : Hid (∀ j u, (Lib.byteCells [s[k]])[j]? = some u → w1.cell? ((⟨wc.heap.size, 0, none⟩ : Addr).add j) = some u) := Lib.hid (cells_after (cells_newg _ _ _ (wc.heap.size) (by first | omega | rfl | (simp; done) | (simp; omega))) (by first | omega | rfl | (simp; done) | (simp; omega)) hg1 (own_ne hown (by first | omega | rfl | (simp; done) | (simp; omega)))); clear hg1) | (at_builtin; refine append_bytes _ rfl (.tmp 75) (.tmp 76) bsl rfl w.heap.size _ _ rfl hown1 ⟨_, 0, none⟩ 1 1 [s[k]] rfl rfl HC1.out (by first | omega | (simp; done) | (simp; omega)) (by first | omega | (simp; done) | (simp; omega)) ?_; intro v2 w2 hown2 hg2; have hb2 := Below_grown hb1 hown1 hg2 (by first | omega | (simp; done) | (simp; omega)); clear hg2))
                  go_roundw
                  case rel => exact ⟨k + 1, _, _, by go_num, rfl, by first | omega | (simp; omega), by first | omega | (simp; omega), hown2, hb2, by omega, by first | omega | (simp; omega), hst⟩
                  case measure => simp [intOf]; omega
                · have HG : n + 1 ≤ 75 := by omega
                  have hst := hst2.out (by simp; omega)
                  clear hst1 hst2 hgt
                  go_wp2_with (first | (at_builtin; refine append_bytes _ rfl (.tmp 75) (.tmp 76) bsl rfl w.heap.size _ _ rfl (hown.alloc _) ⟨_, 0, none⟩ 1 1 [s[k]] rfl rfl (cells_newg _ _ _ _ (by first | omega | rfl | (simp; done) | (simp; omega))) (by first | omega | (simp; done) | (simp; omega)) (by first | omega | (simp; done) | (simp; omega)) ?_; intro v2 w2 hown2 hg2; have hb2 := Below_grown (hbel.alloc hsz _) (hown.alloc _) hg2 (by first | omega | (simp; done) | (simp; omega)); clear hg2))
                  go_roundw
                  case rel => exact ⟨k + 1, _, _, by go_num, rfl, by first | omega | (simp; omega), by first | omega | (simp; omega), hown2, hb2, by omega, by first | omega | (simp; omega), hst⟩
                  case measure => simp [intOf]; omega
            · have hv : (s[k].toNat : Int) = 32 := by simpa using hq
              have hv8 : s[k] = 32 := by rw [← UInt8.toNat_inj]; show s[k].toNat = 32; omega
              have hpv : p = [32] := HP.out.trans (by rw [hv8]; decide)
              clear hv8 hq b
              subst hpv
              clear hx HL HP
              by_cases hgt : n + 1 > 75
              · have HG : 75 < n + 1 := by omega
                have hst := hst1.out (by simp; omega)
                clear hst1 hst2 hgt
                rw [hv]
                go_wp2_with (first | (at_builtin; refine append_bytes _ rfl (.tmp 72) (.tmp 73) bsl rfl w.heap.size _ _ rfl ((hown.alloc _).alloc _) ⟨_, 0, none⟩ 3 3 [61, 13, 10] rfl rfl (cells_newg _ _ _ _ (by first | omega | rfl | (simp; done) | (simp; omega))) (by first | omega | (simp; done) | (simp; omega)) (by first | omega | (simp; done) | (simp; omega)) ?_; intro v1 w1 hown1 hg1; have hb1 := Below_grown ((hbel.alloc hsz _).alloc (by first | omega | rfl | (simp; done) | (simp; omega)) _) ((hown.alloc _).alloc _) hg1 (by first | omega | (simp; done) | (simp; omega)); have hz1 := hb1.size; have HC1 : Hid (∀ j u, (Lib.byteCells [32])[j]? = some u → w1.cell? ((⟨wc.heap.size, 0, none⟩ : Addr).add j) = some u) := Lib.hid (cells_after (cells_newg _ _ _ (wc.heap.size) (by first | omega | rfl | (simp; done) | (simp; omega))) (by first | omega | rfl | (simp; done) | (simp; omega)) hg1 (own_ne hown (by first | omega | rfl | (simp; done) | (simp; omega)))); clear hg1) | (at_builtin; refine append_bytes _ rfl (.tmp 75) (.tmp 76) bsl rfl w.heap.size _ _ rfl hown1 ⟨_, 0, none⟩ 1 1 [32] rfl rfl HC1.out (by first | omega | (simp; done) | (simp; omega)) (by first | omega | (simp; done) | (simp; omega)) ?_; intro v2 w2 hown2 hg2; have hb2 := Below_grown hb1 hown1 hg2 (by first | omega | (simp; done) | (simp; omega)); clear hg2))
                go_roundw
                case rel => exact ⟨k + 1, _, _, by go_num, rfl, by first | omega | (simp; omega), by first | omega | (simp; omega), hown2, hb2, by omega, by first | omega | (simp; omega), hst⟩
                case measure => simp [intOf]; omega
              · have HG : n + 1 ≤ 75 := by omega
                have hst := hst2.out (by simp; omega)
                clear hst1 hst2 hgt
                rw [hv]
                go_wp2_with (first | (at_builtin; refine append_bytes _ rfl (.tmp 75) (.tmp 76) bsl rfl w.heap.size _ _ rfl (hown.alloc _) ⟨_, 0, none⟩ 1 1 [32] rfl rfl (cells_newg _ _ _ _ (by first | omega | rfl | (simp; done) | (simp; omega))) (by first | omega | (simp; done) | (simp; omega)) (by first | omega | (simp; done) | (simp; omega)) ?_; intro v2 w2 hown2 hg2; have hb2 := Below_grown (hbel.alloc hsz _) (hown.alloc _) hg2 (by first | omega | (simp; done) | (simp; omega)); clear hg2))
                go_roundw
                case rel => exact ⟨k + 1, _, _, by go_num, rfl, by first | omega | (simp; omega), by first | omega | (simp; omega), hown2, hb2, by omega, by first | omega | (simp; omega), hst⟩
                case measure => simp [intOf]; omega
            · have hv : (s[k].toNat : Int) = 9 := by simpa using hq
              have hv8 : s[k] = 9 := by rw [← UInt8.toNat_inj]; show s[k].toNat = 9; omega
              have hpv : p = [9] := HP.out.trans (by rw [hv8]; decide)
              clear hv8 hq b c1
              subst hpv
              clear hx HL HP
              by_cases hgt : n + 1 > 75
              · have HG : 75 < n + 1 := by omega
                have hst := hst1.out (by simp; omega)
                clear hst1 hst2 hgt
                rw [hv]
                go_wp2_with (first | (at_builtin; refine append_bytes _ rfl (.tmp 72) (.tmp 73) bsl rfl w.heap.size _ _ rfl ((hown.alloc _).alloc _) ⟨_, 0, none⟩ 3 3 [61, 13, 10] rfl rfl (cells_newg _ _ _ _ (by first | omega | rfl | (simp; done) | (simp; omega))) (by first | omega | (simp; done) | (simp; omega)) (by first | omega | (simp; done) | (simp; omega)) ?_; intro v1 w1 hown1 hg1; have hb1 := Below_grown ((hbel.alloc hsz _).alloc (by first | omega | rfl | (simp; done) | (simp; omega)) _) ((hown.alloc _).alloc _) hg1 (by first | omega | (simp; done) | (simp; omega)); have hz1 := hb1.size; have HC1 : Hid (∀ j u, (Lib.byteCells [9])[j]? = some u → w1.cell? ((⟨wc.heap.size, 0, none⟩ : Addr).add j) = some u) := Lib.hid (cells_after (cells_newg _ _ _ (wc.heap.size) (by first | omega | rfl | (simp; done) | (simp; omega))) (by first | omega | rfl | (simp; done) | (simp; omega)) hg1 (own_ne hown (by first | omega | rfl | (simp; done) | (simp; omega)))); clear hg1) | (at_builtin; refine append_bytes _ rfl (.tmp 75) (.tmp 76) bsl rfl w.heap.size _ _ rfl hown1 ⟨_, 0, none⟩ 1 1 [9] rfl rfl HC1.out (by first | omega | (simp; done) | (simp; omega)) (by first | omega | (simp; done) | (simp; omega)) ?_; intro v2 w2 hown2 hg2; have hb2 := Below_grown hb1 hown1 hg2 (by first | omega | (simp; done) | (simp; omega)); clear hg2))
                go_roundw
                case rel => exact ⟨k + 1, _, _, by go_num, rfl, by first | omega | (simp; omega), by first | omega | (simp; omega), hown2, hb2, by omega, by first | omega | (simp; omega), hst⟩
                case measure => simp [intOf]; omega
              · have HG : n + 1 ≤ 75 := by omega
                have hst := hst2.out (by simp; omega)
                clear hst1 hst2 hgt
                rw [hv]
                go_wp2_with (first | (at_builtin; refine append_bytes _ rfl (.tmp 75) (.tmp 76) bsl rfl w.heap.size _ _ rfl (hown.alloc _) ⟨_, 0, none⟩ 1 1 [9] rfl rfl (cells_newg _ _ _ _ (by first | omega | rfl | (simp; done) | (simp; omega))) (by first | omega | (simp; done) | (simp; omega)) (by first | omega | (simp; done) | (simp; omega)) ?_; intro v2 w2 hown2 hg2; have hb2 := Below_grown (hbel.alloc hsz _) (hown.alloc _) hg2 (by first | omega | (simp; done) | (simp; omega)); clear hg2))
                go_roundw
                case rel => exact ⟨k + 1, _, _, by go_num, rfl, by first | omega | (simp; omega), by first | omega | (simp; omega), hown2, hb2, by omega, by first | omega | (simp; omega), hst⟩
                case measure => simp [intOf]; omega
    · have H := Lib.hid (qp_end hrel hlt)
      have hcv := run_string_owned (P := Tryd.prog) (ts := 9) bsl Tryd.underlying9 hown
      go_wp2
      go_ret
      rw [← H.out]
      exact ⟨rfl, hbel⟩
end Go.Proofs.YtgkbjgmcgbnnaaaDoor
