/- Plain laws: what the codec writes keeps its lines. -/
import Derived.Test.YtgkbjgmcgbnnaaaDoorPlain6b
namespace C6
open Go Pk Hx

def blankC (c : UInt8) : Bool := c == 32 || c == 9
def badC (c : UInt8) : Bool := (c.toNat < 32 && c.toNat != 9) || 126 < c.toNat
/-- the law's narrow; n: characters on this line; pb: does it end in a blank? -/
def nw : Nat → Bool → List UInt8 → Bool
  | n, pb, [] => decide (n ≤ 76) && (n == 0 || !pb)
  | n, _, [c] => !badC c && (decide (n + 1 ≤ 76) && !blankC c)
  | n, pb, c :: d :: r => if c = 13 ∧ d = 10 then (decide (n ≤ 76) && (n == 0 || !pb)) && nw 0 false r else !badC c && nw (n + 1) (blankC c) (d :: r)
theorem nw_one (n : Nat) (pb : Bool) (c : UInt8) (h : c ≠ 13) (X : List UInt8) : nw n pb (c :: X) = (!badC c && nw (n + 1) (blankC c) X) := by
  cases X with
  | nil => simp [nw]
  | cons d r => rw [nw, if_neg (fun e => h e.1)]
theorem nw_crlf (n : Nat) (pb : Bool) (X : List UInt8) : nw n pb (13 :: 10 :: X) = ((decide (n ≤ 76) && (n == 0 || !pb)) && nw 0 false X) := by
  rw [nw, if_pos ⟨rfl, rfl⟩]
/-- a character that a line may hold anywhere -/
def Vis (c : UInt8) : Prop := 33 ≤ c.toNat ∧ c.toNat ≤ 126
theorem vis_ok {c : UInt8} (h : Vis c) : c ≠ 13 ∧ badC c = false ∧ blankC c = false := by
  obtain ⟨a, b⟩ := h
  refine ⟨by rintro rfl; simp at a, ?_, ?_⟩
  · unfold badC; simp; omega
  · unfold blankC
    simp only [Bool.or_eq_false_iff, beq_eq_false_iff_ne]
    exact ⟨by rintro rfl; simp at a, by rintro rfl; simp at a⟩
theorem nw_vis : ∀ (p : List UInt8) (n : Nat) (pb : Bool) (X : List UInt8), (∀ c ∈ p, Vis c) → p ≠ [] → nw n pb (p ++ X) = nw (n + p.length) false X
  | [c], n, pb, X, h, _ => by
    obtain ⟨a, b, e⟩ := vis_ok (h c (by simp))
    rw [List.singleton_append, nw_one n pb c a, b, e]; rfl
  | c :: d :: r, n, pb, X, h, _ => by
    obtain ⟨a, b, e⟩ := vis_ok (h c (by simp))
    rw [List.cons_append, nw_one n pb c a, b, e, nw_vis (d :: r) (n + 1) false X (fun x hx => h x (by simp [hx])) (by simp)]
    simp; congr 1; omega
theorem dig_vis : ∀ n : Fin 64, Vis (dig (n.val : Int)) := by unfold Vis; decide +kernel
theorem dig_vis' {n : Int} (h0 : 0 ≤ n) (h1 : n < 64) : Vis (dig n) := by
  have := dig_vis ⟨n.toNat, by omega⟩
  simp only [Int.toNat_of_nonneg h0] at this
  exact this
theorem eq_vis : Vis 61 := ⟨by decide, by decide⟩
theorem sgR_vis (l : List UInt8) : ∀ c ∈ sgR l, Vis c := by
  fun_induction sgR l with
  | case1 a b c r ih =>
    have ha := a.toNat_lt; have hb := b.toNat_lt; have hc := c.toNat_lt
    have q0 : 0 ≤ q3 a b c := by unfold q3; omega
    have q1 : q3 a b c < 16777216 := by unfold q3; omega
    intro x hx
    simp only [List.mem_cons] at hx
    rcases hx with rfl | rfl | rfl | rfl | hx
    · exact dig_vis' (by omega) (by omega)
    · exact dig_vis' (by omega) (by omega)
    · exact dig_vis' (by omega) (by omega)
    · exact dig_vis' (by omega) (by omega)
    · exact ih x hx
  | case2 a b =>
    have ha := a.toNat_lt; have hb := b.toNat_lt
    have q0 : 0 ≤ q2 a b := by unfold q2; omega
    have q1 : q2 a b < 16777216 := by unfold q2; omega
    intro x hx
    simp only [List.mem_cons, List.not_mem_nil, or_false] at hx
    rcases hx with rfl | rfl | rfl | rfl
    · exact dig_vis' (by omega) (by omega)
    · exact dig_vis' (by omega) (by omega)
    · exact dig_vis' (by omega) (by omega)
    · exact eq_vis
  | case3 a =>
    have ha := a.toNat_lt
    have q0 : 0 ≤ q1 a := by unfold q1; omega
    have q1' : q1 a < 16777216 := by unfold q1; omega
    intro x hx
    simp only [List.mem_cons, List.not_mem_nil, or_false] at hx
    rcases hx with rfl | rfl | rfl | rfl
    · exact dig_vis' (by omega) (by omega)
    · exact dig_vis' (by omega) (by omega)
    · exact eq_vis
    · exact eq_vis
  | case4 => intro x hx; cases hx
theorem nw_brk : ∀ (l : List UInt8) (i n : Nat) (pb : Bool), (∀ c ∈ l, Vis c) → i % 76 = n → (l = [] → n = 0) → nw n pb (brk i l) = true
  | [], i, n, pb, _, _, h => by rw [brk, nw, h rfl]; rfl
  | [c], i, n, pb, hv, hi, _ => by
    rw [brk]
    have := nw_vis [c] n pb [13, 10] (fun x hx => hv x (by simpa using hx)) (by simp)
    rw [List.singleton_append] at this
    rw [this, nw_crlf]
    simp [nw]; omega
  | c :: d :: r, i, n, pb, hv, hi, _ => by
    have hr : ∀ x ∈ d :: r, Vis x := fun x hx => hv x (by simp [hx])
    rw [brk]
    split
    · have := nw_vis [c] n pb (13 :: 10 :: brk (i + 1) (d :: r)) (fun x hx => hv x (by simp at hx; simp [hx])) (by simp)
      rw [List.singleton_append] at this
      rw [this, nw_crlf, nw_brk (d :: r) (i + 1) 0 false hr (by omega) (by simp)]
      simp; omega
    · have := nw_vis [c] n pb (brk (i + 1) (d :: r)) (fun x hx => hv x (by simp at hx; simp [hx])) (by simp)
      rw [List.singleton_append] at this
      rw [this]
      exact nw_brk (d :: r) (i + 1) (n + 1) false hr (by omega) (by simp)
theorem nw_b64 (l : List UInt8) : nw 0 false (b64R l) = true := nw_brk _ 0 0 false (sgR_vis l) rfl (fun _ => rfl)
theorem sgR_length (l : List UInt8) : (sgR l).length = (l.length + 2) / 3 * 4 := by
  fun_induction sgR l <;> simp_all <;> omega
theorem brk_ge : ∀ (l : List UInt8) (i : Nat), l.length ≤ (brk i l).length
  | [], _ => by simp
  | [c], i => by simp [brk]
  | c :: d :: r, i => by
    rw [brk]
    have := brk_ge (d :: r) (i + 1)
    split <;> simp at * <;> omega
theorem b64R_ge (l : List UInt8) : (l.length + 2) / 3 * 4 ≤ (b64R l).length := by
  rw [← sgR_length]; exact brk_ge _ 0
/-- Q's characters -/
theorem qR_vis (l : List UInt8) : ∀ c ∈ qR l, 32 < c.toNat ∧ c.toNat ≤ 126 ∧ c ≠ 63 := by
  induction l with
  | nil => intro c hc; cases hc
  | cons a r ih =>
    intro c hc
    rw [qR] at hc
    rcases List.mem_append.1 hc with h | h
    · unfold qc at h
      have ha := a.toNat_lt
      split at h
      · rename_i hp
        rw [List.mem_singleton] at h; subst h
        unfold plainQ at hp
        exact ⟨by omega, by omega, by rintro rfl; simp at hp⟩
      · split at h
        · rw [List.mem_singleton] at h; subst h; decide
        · unfold escC at h
          simp only [List.mem_cons, List.not_mem_nil, or_false] at h
          obtain ⟨_, _, _, _, _, _, _, x1, x2, x3⟩ := unhex_hex' (n := (a.toNat : Int) / 16) (by omega) (by omega)
          obtain ⟨_, _, _, _, _, _, _, y1, y2, y3⟩ := unhex_hex' (n := (a.toNat : Int) % 16) (by omega) (by omega)
          rcases h with rfl | rfl | rfl
          · decide
          · exact ⟨by omega, x2, x3⟩
          · exact ⟨by omega, y2, y3⟩
    · exact ih c h
/-- quoted-printable's lines -/
theorem escC_vis (c : UInt8) : ∀ d ∈ escC c, Vis d := by
  have hc := c.toNat_lt
  intro d hd
  unfold escC at hd
  simp only [List.mem_cons, List.not_mem_nil, or_false] at hd
  obtain ⟨_, _, _, _, _, _, _, x1, x2, x3⟩ := unhex_hex' (n := (c.toNat : Int) / 16) (by omega) (by omega)
  obtain ⟨_, _, _, _, _, _, _, y1, y2, y3⟩ := unhex_hex' (n := (c.toNat : Int) % 16) (by omega) (by omega)
  rcases hd with rfl | rfl | rfl
  · exact eq_vis
  · exact ⟨x1, x2⟩
  · exact ⟨y1, y2⟩
theorem nw_tok (c : UInt8) (last : Bool) (n : Nat) (pb : Bool) (X : List UInt8) : ∃ pb', nw n pb (qpc c last ++ X) = nw (n + (qpc c last).length) pb' X ∧ (last = true → pb' = false) := by
  unfold qpc
  split
  · exact ⟨false, nw_vis _ n pb X (escC_vis c) (by simp [escC]), fun _ => rfl⟩
  · rename_i h
    by_cases hb : c = 32 ∨ c = 9
    · refine ⟨true, ?_, ?_⟩
      · have h13 : c ≠ 13 := by rcases hb with rfl | rfl <;> decide
        have h1 : badC c = false := by rcases hb with rfl | rfl <;> decide
        have h2 : blankC c = true := by rcases hb with rfl | rfl <;> decide
        rw [List.singleton_append, nw_one n pb c h13, h1, h2]; rfl
      · intro hl
        exfalso
        apply h
        refine ⟨?_, .inr hl⟩
        rcases hb with rfl | rfl <;> decide
    · have hc := c.toNat_lt
      have e1 : (c.toNat : Int) ≠ 32 := fun e => hb (.inl (by rw [← UInt8.toNat_inj]; show c.toNat = 32; omega))
      have e2 : (c.toNat : Int) ≠ 9 := fun e => hb (.inr (by rw [← UInt8.toNat_inj]; show c.toNat = 9; omega))
      have hv : Vis c := by
        unfold Vis
        by_cases hx : (c.toNat : Int) < 33 ∨ 126 < (c.toNat : Int) ∨ (c.toNat : Int) = 61
        · exact absurd ⟨hx, .inl ⟨e1, e2⟩⟩ h
        · omega
      exact ⟨false, nw_vis [c] n pb X (by intro d hd; rw [List.mem_singleton] at hd; subst hd; exact hv) (by simp), fun _ => rfl⟩
theorem nw_soft (n : Nat) (pb : Bool) (X : List UInt8) (h : n ≤ 75) : nw n pb (61 :: 13 :: 10 :: X) = nw 0 false X := by
  rw [nw_one n pb 61 (by decide), nw_crlf]
  simp [show badC 61 = false by decide, show blankC 61 = false by decide]; omega
theorem nw_qp (m : Int) (l : List UInt8) : ∀ (n : Nat) (pb : Bool), m = n → n ≤ 75 → (l = [] ∨ endsL l = true → pb = false) → nw n pb (qpR m l) = true := by
  fun_induction qpR m l with
  | case1 m =>
    intro n pb hm hn h
    rw [nw, h (.inl rfl)]; simp; omega
  | case2 m c hgt =>
    intro n pb hm hn _
    rw [nw_soft n pb _ hn]
    obtain ⟨pb', h1, h2⟩ := nw_tok c true 0 false []
    rw [List.append_nil] at h1
    have hl := qpc_length c true
    rw [h1, nw, h2 rfl]; simp; omega
  | case3 m c hgt =>
    intro n pb hm hn _
    obtain ⟨pb', h1, h2⟩ := nw_tok c true n pb []
    rw [List.append_nil] at h1
    rw [h1, nw, h2 rfl]; simp; omega
  | case4 m c d r he ih =>
    intro n pb hm hn h
    rw [nw_crlf, h (.inr he), ih 0 false rfl (by omega) (fun _ => rfl)]; simp; omega
  | case5 m c d r he hgt ih =>
    intro n pb hm hn _
    have hl := qpc_length c (endsL (d :: r))
    rw [nw_soft n pb _ hn]
    obtain ⟨pb', h1, h2⟩ := nw_tok c (endsL (d :: r)) 0 false (qpR (qpc c (endsL (d :: r))).length (d :: r))
    rw [h1, ih _ pb' (by simp) (by omega)]
    intro hx
    rcases hx with hx | hx
    · cases hx
    · exact h2 hx
  | case6 m c d r he hgt ih =>
    intro n pb hm hn _
    obtain ⟨pb', h1, h2⟩ := nw_tok c (endsL (d :: r)) n pb (qpR (m + (qpc c (endsL (d :: r))).length) (d :: r))
    rw [h1, ih _ pb' (by omega) (by omega)]
    intro hx
    rcases hx with hx | hx
    · cases hx
    · exact h2 hx
theorem nw_qpR (l : List UInt8) : nw 0 false (qpR 0 l) = true := nw_qp 0 l 0 false rfl (by omega) (fun _ => rfl)
end C6
