/- Walks: dates: digits, year, plain. -/
import Derived.Test.YtlgnhngbmciaoaaDoorDtV
import Derived.Test.YtlgnhngbmciaoaaDoorKitX
import Derived.Test.YtlgnhngbmciaoaaDoorStrK
import Derived.Test.YtlgnhngbmciaoaaDoorRows
namespace Go.Proofs.YtlgnhngbmciaoaaDoor
open Go.RowKit Pk Dt

theorem bslD : ByteSl Tryd.prog 56 5 where
  ht := Tryd.underlying56
  he := Tryd.underlying5
  hi := info_parts (show (Tryd.prog.info? 5).map (fun i => (i.zero, i.size, i.bytes)) = some (some (.int .u8 0), 1, 1) by kernel_rfl)
def nbd (n : Int) (k : Nat) : Prop := 0 ≤ n ∧ n < 10 ^ k
theorem nbd_le {n : Int} {k : Nat} (h : nbd n k) (hk : k ≤ 4) : 0 ≤ n ∧ n ≤ 9999 := by
  obtain ⟨h1, h2⟩ := h
  rcases (by omega : k = 0 ∨ k = 1 ∨ k = 2 ∨ k = 3 ∨ k = 4) with rfl | rfl | rfl | rfl | rfl <;> omega
theorem nbd_step {n x : Int} {k : Nat} (h : nbd n k) (h0 : 0 ≤ x) (h1 : x ≤ 9) : nbd (10 * n + x) (k + 1) := by
  obtain ⟨a, b⟩ := h
  refine ⟨by omega, ?_⟩
  have e : (10 : Int) ^ (k + 1) = 10 ^ k * 10 := Int.pow_succ 10 k
  rw [e]; omega
theorem digF_nbd : ∀ (s : List UInt8) (n : Int) (k : Nat), nbd n k → nbd (digF n s).1 (k + s.length)
  | [], n, k, h => h
  | c :: r, n, k, h => by
    unfold digF
    split
    · refine ⟨Int.le_refl _, ?_⟩
      show (0 : Int) < 10 ^ _
      exact Int.pow_pos (by decide)
    · rename_i hc
      have := digF_nbd r _ (k + 1) (nbd_step (x := (c.toNat : Int) - 48) h (by omega) (by omega))
      rw [List.length_cons]
      rwa [show k + (r.length + 1) = k + 1 + r.length by omega]
theorem nbd_mono {n : Int} {j k : Nat} (h : nbd n j) (hj : j ≤ k) : nbd n k := by
  obtain ⟨a, b⟩ := h
  refine ⟨a, Int.lt_of_lt_of_le b ?_⟩
  have h1 : (10 : Nat) ^ j ≤ 10 ^ k := Nat.pow_le_pow_right (by decide) hj
  exact_mod_cast h1
theorem digL_nbd (a b : Nat) (s : List UInt8) : nbd (digL a b s).1 b := by
  unfold digL
  split
  · refine ⟨Int.le_refl _, ?_⟩
    show (0 : Int) < 10 ^ _
    exact Int.pow_pos (by decide)
  · rename_i h
    have := digF_nbd s 0 0 ⟨Int.le_refl _, by decide⟩
    exact nbd_mono this (by omega)
theorem dig_step {s : ByteArray} {k : Nat} {n : Int} {X : Int × Bool} (h : Hid (digF n (tl s k) = X)) (hk : k < s.size) :
    (¬ (s[k].toNat < 48 ∨ 57 < s[k].toNat) → Hid (digF (10 * n + ((s[k].toNat : Int) - 48)) (tl s (k + 1)) = X)) ∧ ((s[k].toNat < 48 ∨ 57 < s[k].toNat) → X = (0, false)) := by
  have e := h.out
  rw [tl_cons s k hk, digF] at e
  exact ⟨fun h1 => by rw [if_neg h1] at e; exact e, fun h1 => by rw [if_pos h1] at e; exact e.symm⟩
theorem dig_end {s : ByteArray} {k : Nat} {n : Int} {X : Int × Bool} (h : Hid (digF n (tl s k) = X)) (hk : ¬ k < s.size) : X = (n, true) := by
  have e := h.out
  rw [tl_end s k (by omega), digF] at e
  exact e.symm
def PairD (p : Int × Bool) (w : World) (e : Ending) (w' : World) : Prop := e = .returned (.tuple #[.int .i64 p.1, .bool p.2]) ∧ Below w.heap.size w w'
set_option maxHeartbeats 1000000 in
set_option maxRecDepth 100000 in
theorem digits_any (s : ByteArray) (a b : Nat) (w : World) (hb : b ≤ 4) : Calls Tryd.prog 23 #[.string s, .int .i64 a, .int .i64 b] w (PairD (digL a b s.data.toList) w) := by
  unfold digL
  rw [dataL]
  by_cases h1 : s.size < a
  · rw [if_pos (.inl h1)]
    have q1 : decide (s.size < a) = true := decide_eq_true h1
    go_enter Tryd.func23, Tryd.ntmps23
    go_wp2
    go_ret2
    exact ⟨rfl, Below.refl _ _⟩
  · have q1 : decide (s.size < a) = false := decide_eq_false h1
    by_cases h2 : b < s.size
    · rw [if_pos (.inr h2)]
      have q2 : decide (b < s.size) = true := decide_eq_true h2
      go_enter Tryd.func23, Tryd.ntmps23
      go_wp2
      go_ret2
      exact ⟨rfl, Below.refl _ _⟩
    · rw [if_neg (by omega)]
      have q2 : decide (b < s.size) = false := decide_eq_false h2
      have hs4 : s.size ≤ 4 := by omega
      have hst : Hid (digF 0 (tl s 0) = digF 0 s.data.toList) := by rw [tl_zero]; exact Lib.hid rfl
      generalize digF 0 s.data.toList = X at *
      obtain ⟨cp, w1, hcv, hrow, hb1, hz1⟩ := conv_row (P := Tryd.prog) w 9 56 5 s Tryd.underlying9 Tryd.underlying56 Tryd.underlying5
      go_enter Tryd.func23, Tryd.ntmps23
      go_wp2
      clear hcv
      go_loop [6, 23] (fun nv iv => ∃ (k : Nat) (n : Int), nv = .int .i64 n ∧ iv = .int .i64 k ∧ k ≤ s.size ∧ Hid (nbd n k) ∧ Hid (digF n (tl s k) = X)) (fun _ iv => s.size - (intOf iv).toNat)
      case atStart => exact ⟨0, 0, by first | rfl | trivial, by first | rfl | trivial, by omega, ⟨Int.le_refl _, by decide⟩, hst⟩
      case round =>
        obtain ⟨k, n, rfl, rfl, hk, hn, hrel⟩ := hrel
        obtain ⟨n0, n1⟩ := nbd_le hn.out (by omega)
        by_cases hlt : k < s.size
        · have hc : w1.cell? ⟨w.heap.size, k, none⟩ = some (.int .u8 s[k].toNat) := rowF_cell hrow k hlt
          obtain ⟨s1, s2⟩ := dig_step hrel hlt
          have hcb := s[k].toNat_lt
          by_cases g1 : s[k].toNat < 48
          · have hX := Lib.hid (s2 (.inl g1))
            clear s1 s2 hrel
            go_wp2
            go_ret2
            rw [hX.out]
            exact ⟨rfl, hb1⟩
          · by_cases g2 : 57 < s[k].toNat
            · have hX := Lib.hid (s2 (.inr g2))
              clear s1 s2 hrel
              go_wp2
              go_ret2
              rw [hX.out]
              exact ⟨rfl, hb1⟩
            · have hnx := s1 (by omega)
              have hn2 := Lib.hid (nbd_step (x := (s[k].toNat : Int) - 48) hn.out (by omega) (by omega))
              clear s1 s2 hrel
              go_wp2
              go_round
              case rel => exact ⟨k + 1, _, rfl, by go_num, by omega, hn2, hnx⟩
              case measure => simp [intOf]; omega
        · have hX := Lib.hid (dig_end hrel hlt)
          clear hrel
          go_wp2
          go_ret2
          rw [hX.out]
          exact ⟨rfl, hb1⟩
theorem digits22 (s : ByteArray) (w : World) : Calls Tryd.prog 23 #[.string s, .int .i64 2, .int .i64 2] w (PairD (digL 2 2 s.data.toList) w) := digits_any s 2 2 w (by decide)
theorem digits24 (s : ByteArray) (w : World) : Calls Tryd.prog 23 #[.string s, .int .i64 2, .int .i64 4] w (PairD (digL 2 4 s.data.toList) w) := digits_any s 2 4 w (by decide)
theorem digits12 (s : ByteArray) (w : World) : Calls Tryd.prog 23 #[.string s, .int .i64 1, .int .i64 2] w (PairD (digL 1 2 s.data.toList) w) := digits_any s 1 2 w (by decide)
set_option maxHeartbeats 1000000 in
set_option maxRecDepth 100000 in
theorem year_any (s : ByteArray) (w : World) : Calls Tryd.prog 25 #[.string s] w (PairD (yearL s.data.toList) w) := by
  have hD := fun w => digits24 s w
  obtain ⟨b1, b2⟩ := nbd_le (digL_nbd 2 4 s.data.toList) (Nat.le_refl _)
  have tb := Below.refl w.heap.size w
  unfold PairD at *
  have hd : digL 2 4 s.data.toList = digL 2 4 s.data.toList := rfl
  revert hd
  generalize hx : digL 2 4 s.data.toList = x at *
  obtain ⟨n, ok⟩ := x
  intro hd
  clear hd
  have hd := hx
  clear hx
  simp only at *
  by_cases h3 : s.size = 3
  · have q1 : ((s.size : Int) == 3) = true := beq_iff_eq.2 (by omega)
    have H3 := Lib.hid h3
    clear h3
    have p : yearL s.data.toList = (n + 1900, ok) := by unfold yearL; rw [hd, dataL]; simp only; rw [if_pos (.inl H3.out)]
    rw [p]
    have HD := Lib.hid hD
    clear p hD hd
    go_enter Tryd.func25, Tryd.ntmps25
    go_wp2_with (go_at_call 23; (with_reducible refine (HD.out _).mono ?_); rintro e w1 ⟨rfl, hb1⟩; have tb := tb.trans (hb1.mono tb.size))
    go_ret2
    exact ⟨rfl, tb⟩
  · have q1 : ((s.size : Int) == 3) = false := beq_eq_false_iff_ne.2 (by omega)
    by_cases h2 : s.size = 2
    · have q2 : ((s.size : Int) == 2) = true := beq_iff_eq.2 (by omega)
      have H2 := Lib.hid h2
      clear h2 h3
      by_cases h5 : 50 ≤ n
      · have q3 : decide (50 ≤ n) = true := decide_eq_true h5
        have p : yearL s.data.toList = (n + 1900, ok) := by unfold yearL; rw [hd, dataL]; simp only; rw [if_pos (.inr ⟨H2.out, h5⟩)]
        rw [p]
        have HD := Lib.hid hD
        clear p hD hd
        go_enter Tryd.func25, Tryd.ntmps25
        go_wp2_with (go_at_call 23; (with_reducible refine (HD.out _).mono ?_); rintro e w1 ⟨rfl, hb1⟩; have tb := tb.trans (hb1.mono tb.size))
        go_ret2
        exact ⟨rfl, tb⟩
      · have q3 : decide (50 ≤ n) = false := decide_eq_false h5
        have p : yearL s.data.toList = (n + 2000, ok) := by unfold yearL; rw [hd, dataL]; simp only; rw [if_neg (by have := H2.out; omega), if_pos H2.out]
        rw [p]
        have HD := Lib.hid hD
        clear p hD hd
        go_enter Tryd.func25, Tryd.ntmps25
        go_wp2_with (go_at_call 23; (with_reducible refine (HD.out _).mono ?_); rintro e w1 ⟨rfl, hb1⟩; have tb := tb.trans (hb1.mono tb.size))
        go_ret2
        exact ⟨rfl, tb⟩
    · have q2 : ((s.size : Int) == 2) = false := beq_eq_false_iff_ne.2 (by omega)
      have p : yearL s.data.toList = (n, ok) := by unfold yearL; rw [hd, dataL]; simp only; rw [if_neg (by omega), if_neg h2]
      rw [p]
      have HD := Lib.hid hD
      clear p hD hd
      go_enter Tryd.func25, Tryd.ntmps25
      go_wp2_with (go_at_call 23; (with_reducible refine (HD.out _).mono ?_); rintro e w1 ⟨rfl, hb1⟩; have tb := tb.trans (hb1.mono tb.size))
      go_ret2
      exact ⟨rfl, tb⟩
/-- comments, byte by byte -/
def outP (n : Nat) (c : UInt8) : UInt8 := if c = 40 then 32 else if 0 < n then 32 else if c = 44 then 32 else if 65 ≤ c.toNat ∧ c.toNat ≤ 90 then c + 32 else c
def depP (n : Nat) (c : UInt8) : Nat := if c = 40 then n + 1 else if 0 < n then (if c = 41 then n - 1 else n) else n
theorem plD_one {n : Nat} {c : UInt8} (r : List UInt8) (h : ¬ (c = 92 ∧ 0 < n)) : plD n (c :: r) = outP n c :: plD (depP n c) r := by
  unfold outP depP
  cases r with
  | nil =>
    unfold plD
    rw [if_neg h]
    by_cases h1 : c = 40
    · rw [if_pos h1, if_pos h1]
    · rw [if_neg h1, if_neg h1]
      by_cases h2 : 0 < n
      · rw [if_pos h2, if_pos h2]
      · rw [if_neg h2, if_neg h2]
        by_cases h3 : c = 44
        · rw [if_pos h3, if_pos h3]
        · rw [if_neg h3, if_neg h3]
          split <;> rfl
  | cons d r =>
    conv => lhs; unfold plD
    rw [if_neg h]
    by_cases h1 : c = 40
    · rw [if_pos h1, if_pos h1, if_pos h1]
    · rw [if_neg h1, if_neg h1, if_neg h1]
      by_cases h2 : 0 < n
      · rw [if_pos h2, if_pos h2, if_pos h2]
      · rw [if_neg h2, if_neg h2, if_neg h2]
        by_cases h3 : c = 44
        · rw [if_pos h3, if_pos h3]
        · rw [if_neg h3, if_neg h3]
          split <;> rfl
theorem plD_esc {n : Nat} (d : UInt8) (r : List UInt8) (h : 0 < n) : plD n (92 :: d :: r) = 32 :: 32 :: plD n r := by
  conv => lhs; unfold plD
  rw [if_pos ⟨rfl, h⟩]
theorem plD_esc0 {n : Nat} (h : 0 < n) : plD n [92] = [32] := by
  unfold plD
  rw [if_pos ⟨rfl, h⟩]
def PlIs (s : ByteArray) (X acc : List UInt8) (n k : Nat) : Prop := acc ++ plD n (tl s k) = X
theorem pl_one {s : ByteArray} {X acc : List UInt8} {n k : Nat} (h : Hid (PlIs s X acc n k)) (hk : k < s.size) (hc : ¬ (s[k] = 92 ∧ 0 < n)) : Hid (PlIs s X (acc ++ [outP n s[k]]) (depP n s[k]) (k + 1)) := by
  have e := h.out
  unfold PlIs at e
  rw [tl_cons s k hk, plD_one _ hc] at e
  show _ = _
  rw [← e]; simp
theorem pl_esc {s : ByteArray} {X acc : List UInt8} {n k : Nat} (h : Hid (PlIs s X acc n k)) (hk : k + 1 < s.size) (hc : s[k] = 92) (hn : 0 < n) : Hid (PlIs s X (acc ++ [32] ++ [32]) n (k + 1 + 1)) := by
  have e := h.out
  unfold PlIs at e
  rw [tl_cons s k (by omega), hc, tl_cons s (k + 1) hk, plD_esc _ _ hn] at e
  show _ = _
  rw [← e]; simp
theorem pl_esc0 {s : ByteArray} {X acc : List UInt8} {n k : Nat} (h : Hid (PlIs s X acc n k)) (hk : k < s.size) (hk2 : ¬ k + 1 < s.size) (hc : s[k] = 92) (hn : 0 < n) : Hid (PlIs s X (acc ++ [32]) n (k + 1 + 1)) := by
  have e := h.out
  unfold PlIs at e
  rw [tl_cons s k (by omega), hc, tl_end s (k + 1) (by omega), plD_esc0 hn] at e
  show _ = _
  rw [tl_end s (k + 1 + 1) (by omega), ← e]
  simp [plD]
theorem pl_end {s : ByteArray} {X acc : List UInt8} {n k : Nat} (h : Hid (PlIs s X acc n k)) (hk : s.size ≤ k) : X = acc := by
  have e := h.out
  unfold PlIs at e
  rw [tl_end s k hk] at e
  rw [← e]; simp [plD]
theorem plD_length : ∀ (l : List UInt8) (n : Nat), (plD n l).length = l.length
  | [], _ => rfl
  | [c], n => by
    unfold plD
    split
    · rfl
    · split
      · rfl
      · split
        · rfl
        · split
          · rfl
          · split <;> rfl
  | c :: d :: r, n => by
    by_cases h : c = 92 ∧ 0 < n
    · obtain ⟨rfl, h⟩ := h
      rw [plD_esc _ _ h, List.length_cons, List.length_cons, plD_length r n, List.length_cons, List.length_cons]
    · rw [plD_one _ h, List.length_cons, plD_length (d :: r), List.length_cons, List.length_cons, List.length_cons]
/-- the row: what is done, then what is still the string's -/
theorem mid_set {s : ByteArray} {acc : List UInt8} {k : Nat} (ha : acc.length = k) (hk : k < s.size) (y : UInt8) : (acc ++ tl s k).set k y = acc ++ [y] ++ tl s (k + 1) := by
  rw [tl_cons s k hk, List.set_append_right _ _ (by omega), ha, Nat.sub_self, List.set_cons_zero]
  simp
theorem mid_keep {s : ByteArray} {acc : List UInt8} {k : Nat} (hk : k < s.size) : acc ++ tl s k = acc ++ [s[k]] ++ tl s (k + 1) := by
  rw [tl_cons s k hk]; simp
theorem mid_len {s : ByteArray} {acc : List UInt8} {k : Nat} (ha : acc.length = k) (hk : k ≤ s.size) : (acc ++ tl s k).length = s.size := by
  rw [List.length_append, tl_length, ha]; omega
theorem mid_cell {w : World} {g : Nat} {e : TypeId} {s : ByteArray} {acc : List UInt8} {k : Nat} (h : rowF w g e (acc ++ tl s k)) (ha : acc.length = k) (hk : k < s.size) : w.cell? ⟨g, k, none⟩ = some (.int .u8 s[k].toNat) := by
  have := rowF_cell h k (by rw [mid_len ha (by omega)]; exact hk)
  rw [this]
  have e : (acc ++ tl s k)[k]? = some s[k] := by
    rw [List.getElem?_append_right (by omega), ha, Nat.sub_self, tl_cons s k hk]; rfl
  have e2 := (List.getElem?_eq_some_iff.1 e).2
  rw [e2]
end Go.Proofs.YtlgnhngbmciaoaaDoor
