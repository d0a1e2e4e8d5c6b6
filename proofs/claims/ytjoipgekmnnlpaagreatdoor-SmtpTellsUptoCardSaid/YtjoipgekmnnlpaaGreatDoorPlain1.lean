/- Plain laws: decimal numerals. -/
import Derived.Test.YtjoipgekmnnlpaaGreatDoorSpc6
import Derived.Lib.ItoaMem
import Derived.Lib.AtoiAll
namespace C1
open Go Pk Hx Lib

def digC (c : UInt8) : Bool := decide (48 ≤ c.toNat ∧ c.toNat ≤ 57)
theorem digC_iff (c : UInt8) : digC c = true ↔ 48 ≤ c.toNat ∧ c.toNat ≤ 57 := by unfold digC; exact decide_eq_true_iff
/-- the value of digits -/
def val (acc : Nat) : List UInt8 → Nat
  | [] => acc
  | c :: r => val (acc * 10 + (c.toNat - 48)) r
theorem val_ge : ∀ (l : List UInt8) (acc : Nat), acc ≤ val acc l
  | [], _ => Nat.le_refl _
  | c :: r, acc => by unfold val; exact Nat.le_trans (by omega) (val_ge r _)
theorem val_snoc : ∀ (l : List UInt8) (acc : Nat) (c : UInt8), val acc (l ++ [c]) = val acc l * 10 + (c.toNat - 48)
  | [], _, _ => rfl
  | d :: r, acc, c => val_snoc r (acc * 10 + (d.toNat - 48)) c
theorem dd_snoc {u : Nat} (h : ¬ u < 10) : decDigits u = decDigits (u / 10) ++ [UInt8.ofNat (48 + u % 10)] := by
  rw [decDigits, dif_neg h]
theorem head_app (r : List UInt8) (c : UInt8) (hr : r ≠ []) : (r ++ [c]).head? = r.head? := by
  cases r with
  | nil => exact absurd rfl hr
  | cons a b => rfl
theorem dd_zero : decDigits 0 = [48] := decDigits_one (by decide)
theorem dd_digits (u : Nat) : ∀ c ∈ decDigits u, digC c = true := by
  induction u using Nat.strongRecOn with
  | _ u ih =>
    by_cases h : u < 10
    · rw [decDigits_one h]
      intro c hc
      rw [List.mem_singleton] at hc
      subst hc
      rw [digC_iff]; simp; omega
    · rw [dd_snoc h]
      intro c hc
      rcases List.mem_append.1 hc with hc | hc
      · exact ih _ (by omega) c hc
      · rw [List.mem_singleton] at hc
        subst hc
        rw [digC_iff]; simp; omega
theorem dd_ne (u : Nat) : decDigits u ≠ [] := by
  by_cases h : u < 10
  · rw [decDigits_one h]; simp
  · rw [dd_snoc h]; simp
theorem dd_head (u : Nat) (h0 : u ≠ 0) : ∀ c, (decDigits u).head? = some c → c ≠ 48 := by
  induction u using Nat.strongRecOn with
  | _ u ih =>
    by_cases h : u < 10
    · rw [decDigits_one h]
      intro c hc
      simp at hc
      subst hc
      intro e
      have := congrArg UInt8.toNat e
      simp at this; omega
    · rw [dd_snoc h]
      intro c hc
      rw [head_app _ _ (dd_ne _)] at hc
      exact ih (u / 10) (by omega) (by omega) c hc
theorem d48 (u : Nat) (h : u < 10) : (UInt8.ofNat (48 + u)).toNat = 48 + u := by rw [UInt8.toNat_ofNat']; omega
theorem dd_val (u : Nat) : val 0 (decDigits u) = u := by
  induction u using Nat.strongRecOn with
  | _ u ih =>
    by_cases h : u < 10
    · have e : val 0 [UInt8.ofNat (48 + u)] = 0 * 10 + ((UInt8.ofNat (48 + u)).toNat - 48) := rfl
      rw [decDigits_one h, e, d48 u h]; omega
    · rw [dd_snoc h, val_snoc, ih (u / 10) (by omega), d48 (u % 10) (by omega)]; omega
theorem val_pos : ∀ (l : List UInt8), l ≠ [] → (∀ c ∈ l, digC c = true) → (∀ c, l.head? = some c → c ≠ 48) → 1 ≤ val 0 l
  | [], h, _, _ => absurd rfl h
  | c :: r, _, h1, h2 => by
    unfold val
    have a := (digC_iff c).1 (h1 c (by simp))
    have b := h2 c rfl
    have : c.toNat ≠ 48 := fun e => b (by rw [← UInt8.toNat_inj]; exact e)
    exact Nat.le_trans (by omega) (val_ge r _)
theorem dd_of : ∀ (n : Nat) (l : List UInt8), l.length = n → l ≠ [] → (∀ c ∈ l, digC c = true) → ((∀ c, l.head? = some c → c ≠ 48) ∨ l = [48]) → decDigits (val 0 l) = l
  | 0, l, h, hne, _, _ => absurd (List.eq_nil_of_length_eq_zero h) hne
  | n + 1, l, h, hne, hd, hz => by
    rcases List.eq_nil_or_concat l with e | ⟨r, c, e⟩
    · exact absurd e hne
    · rw [List.concat_eq_append] at e
      subst e
      have hc := (digC_iff c).1 (hd c (by simp))
      have hcc : UInt8.ofNat (48 + (c.toNat - 48)) = c := by rw [← UInt8.toNat_inj]; simp; omega
      rw [val_snoc]
      by_cases hr : r = []
      · subst hr
        have e : val 0 ([] : List UInt8) * 10 + (c.toNat - 48) = c.toNat - 48 := by show 0 * 10 + _ = _; omega
        rw [e]
        exact (decDigits_one (show c.toNat - 48 < 10 by omega)).trans (congrArg (fun x => [x]) hcc)
      · have hz' : ∀ d, r.head? = some d → d ≠ 48 := by
          rcases hz with hz | hz
          · intro d hd'
            exact hz d (by rw [head_app _ _ hr]; exact hd')
          · have : r.length = 0 := by have := congrArg List.length hz; simp at this; simp [this]
            exact absurd (List.eq_nil_of_length_eq_zero this) hr
        have hp := val_pos r hr (fun d hd' => hd d (by simp [hd'])) hz'
        have ih := dd_of n r (by simp at h; exact h) hr (fun d hd' => hd d (by simp [hd'])) (.inl hz')
        rw [dd_snoc (by omega), show (val 0 r * 10 + (c.toNat - 48)) / 10 = val 0 r by omega, ih, show (val 0 r * 10 + (c.toNat - 48)) % 10 = c.toNat - 48 by omega, hcc]

/-- what stands behind the sign -/
def negL (l : List UInt8) : Bool := l.head? == some 45
def body (l : List UInt8) : List UInt8 := if negL l = true then l.tail else l
def ival (l : List UInt8) : Int := if negL l = true then -(val 0 (body l) : Int) else val 0 (body l)
def Can (l : List UInt8) : Prop := (∀ c ∈ body l, digC c = true) ∧ body l ≠ [] ∧ ((∀ c, (body l).head? = some c → c ≠ 48) ∨ l = [48])
theorem neg_dd (u : Nat) : negL (decDigits u) = false := by
  unfold negL
  have h := dd_digits u
  cases he : decDigits u with
  | nil => rfl
  | cons c r =>
    rw [he] at h
    have := (digC_iff c).1 (h c (by simp))
    simp
    intro e; subst e; simp at this
theorem itoa_pos {n : Int} (h : 0 ≤ n) : itoa n = decDigits n.toNat := by unfold itoa; rw [if_neg (by omega)]
theorem itoa_ne {n : Int} (h : n < 0) : itoa n = 45 :: decDigits n.natAbs := by unfold itoa; rw [if_pos h]
theorem can_itoa (n : Int) : Can (itoa n) := by
  by_cases h : n < 0
  · rw [itoa_ne h]
    have hb : body (45 :: decDigits n.natAbs) = decDigits n.natAbs := rfl
    unfold Can
    rw [hb]
    exact ⟨dd_digits _, dd_ne _, .inl (dd_head _ (by omega))⟩
  · rw [itoa_pos (by omega)]
    have hb : body (decDigits n.toNat) = decDigits n.toNat := by unfold body; rw [neg_dd]; rfl
    unfold Can
    rw [hb]
    refine ⟨dd_digits _, dd_ne _, ?_⟩
    by_cases h0 : n.toNat = 0
    · right; rw [h0]; exact dd_zero
    · exact .inl (dd_head _ h0)
theorem ival_itoa (n : Int) : ival (itoa n) = n := by
  by_cases h : n < 0
  · rw [itoa_ne h]
    have hb : body (45 :: decDigits n.natAbs) = decDigits n.natAbs := rfl
    unfold ival
    rw [hb, if_pos (show negL (45 :: decDigits n.natAbs) = true from rfl), dd_val]; omega
  · rw [itoa_pos (by omega)]
    have hb : body (decDigits n.toNat) = decDigits n.toNat := by unfold body; rw [neg_dd]; rfl
    unfold ival
    rw [hb, neg_dd, if_neg (by decide), dd_val]; omega
theorem itoa_ival {l : List UInt8} (h : Can l) : itoa (ival l) = l := by
  obtain ⟨h1, h2, h3⟩ := h
  cases hn : negL l with
  | true =>
    have hl : l = 45 :: body l := by
      unfold body; rw [if_pos hn]
      unfold negL at hn
      cases l with
      | nil => cases hn
      | cons c r => simp at hn; simp [hn]
    have hz : ∀ c, (body l).head? = some c → c ≠ 48 := by
      rcases h3 with h3 | h3
      · exact h3
      · subst h3; cases hn
    have hp := val_pos _ h2 h1 hz
    have hd := dd_of _ (body l) rfl h2 h1 (.inl hz)
    unfold ival
    rw [if_pos hn, itoa_ne (by omega), show (-(val 0 (body l) : Int)).natAbs = val 0 (body l) by omega, hd]
    exact hl.symm
  | false =>
    have hb : body l = l := by unfold body; rw [hn]; rfl
    rw [hb] at h1 h2 h3
    have hd := dd_of _ l rfl h2 h1 h3
    unfold ival
    rw [hn, if_neg (by decide), hb, itoa_pos (by omega), Int.toNat_natCast, hd]

/-- is it an int's own numeral, and which -/
noncomputable def prs (l : List UInt8) : Option Int := @ite _ (Can l ∧ -9223372036854775808 ≤ ival l ∧ ival l ≤ 9223372036854775807) (Classical.propDecidable _) (some (ival l)) none
theorem prs_some {l : List UInt8} (h : Can l) (h1 : -9223372036854775808 ≤ ival l) (h2 : ival l ≤ 9223372036854775807) : prs l = some (ival l) := by unfold prs; rw [if_pos ⟨h, h1, h2⟩]
theorem prs_none {l : List UInt8} (h : ¬ (Can l ∧ -9223372036854775808 ≤ ival l ∧ ival l ≤ 9223372036854775807)) : prs l = none := by unfold prs; rw [if_neg h]
theorem prs_itoa {n : Int} (h1 : -9223372036854775808 ≤ n) (h2 : n ≤ 9223372036854775807) : prs (itoa n) = some n := by
  rw [prs_some (can_itoa n) (by rw [ival_itoa]; exact h1) (by rw [ival_itoa]; exact h2), ival_itoa]
theorem itoa_prs {l : List UInt8} {n : Int} (h : prs l = some n) : itoa n = l ∧ -9223372036854775808 ≤ n ∧ n ≤ 9223372036854775807 := by
  unfold prs at h
  split at h
  · rename_i hc
    injection h with h
    subst h
    exact ⟨itoa_ival hc.1, hc.2⟩
  · cases h
def pickR (o : Option Int) (lo hi : Int) : Int × Bool := match o with
  | some v => if lo ≤ v ∧ v ≤ hi then (v, true) else (0, false)
  | none => (0, false)
noncomputable def parseL (l : List UInt8) (lo hi : Int) : Int × Bool := pickR (prs l) lo hi

theorem pu_digits : ∀ (l : List UInt8) (acc : Nat), (∀ c ∈ l, digC c = true) → acc < 18446744073709551616 → parseUint10 acc l = if val acc l < 18446744073709551616 then .ok (val acc l) else .range
  | [], acc, _, h => (if_pos (c := acc < 18446744073709551616) h).symm
  | c :: r, acc, hd, h => by
    have hc := (digC_iff c).1 (hd c (by simp))
    have hv : val acc (c :: r) = val (acc * 10 + (c.toNat - 48)) r := rfl
    rw [parseUint10, if_pos hc, hv]
    have hge := val_ge r (acc * 10 + (c.toNat - 48))
    split
    · rw [if_neg (by omega)]
    · split
      · rw [if_neg (by omega)]
      · exact pu_digits r _ (fun d hd' => hd d (by simp [hd'])) (by omega)
theorem atoi_can {l : List UInt8} (h : Can l) : atoiAll l = if -9223372036854775808 ≤ ival l ∧ ival l ≤ 9223372036854775807 then .ok (ival l) else .range := by
  obtain ⟨h1, h2, h3⟩ := h
  cases l with
  | nil => exact absurd rfl h2
  | cons c r =>
    have hm : (if c.toNat = 43 ∨ c.toNat = 45 then r else c :: r) = body (c :: r) ∧ (c.toNat = 45 ↔ negL (c :: r) = true) := by
      by_cases hc : c = 45
      · subst hc; exact ⟨rfl, by simp [negL]⟩
      · have h45 : c.toNat ≠ 45 := fun e => hc (by rw [← UInt8.toNat_inj]; exact e)
        have hn : negL (c :: r) = false := by unfold negL; simp [hc]
        have hb : body (c :: r) = c :: r := by unfold body; rw [hn]; rfl
        rw [hb] at h1
        have := (digC_iff c).1 (h1 c (by simp))
        rw [hb, hn, if_neg (by omega)]
        exact ⟨rfl, by simp [h45]⟩
    have hpm : parseMag (body (c :: r)) = if val 0 (body (c :: r)) < 18446744073709551616 then .ok (val 0 (body (c :: r))) else .range := by
      unfold parseMag
      rw [if_neg h2, pu_digits _ _ h1 (by omega)]
    unfold atoiAll
    simp only [hm.1, hpm]
    have hiv : ival (c :: r) = if negL (c :: r) = true then -(val 0 (body (c :: r)) : Int) else val 0 (body (c :: r)) := rfl
    rw [hiv]
    cases hn : negL (c :: r) with
    | true =>
      have h45 := hm.2.2 hn
      simp only [h45, if_true, not_true_eq_false, false_and, if_false, true_and]
      by_cases hv : val 0 (body (c :: r)) < 18446744073709551616
      · rw [if_pos hv]
        simp only
        by_cases hw : 9223372036854775808 < val 0 (body (c :: r))
        · rw [if_pos hw, if_neg (by omega)]
        · rw [if_neg hw, if_pos (by omega)]
      · rw [if_neg hv, if_neg (by omega)]
    | false =>
      have h45 : ¬ c.toNat = 45 := fun e => by rw [hm.2.1 e] at hn; cases hn
      simp only [h45, if_false, not_false_eq_true, true_and, false_and, Bool.false_eq_true]
      by_cases hv : val 0 (body (c :: r)) < 18446744073709551616
      · rw [if_pos hv]
        simp only
        by_cases hw : 9223372036854775808 ≤ val 0 (body (c :: r))
        · rw [if_pos hw, if_neg (by omega)]
        · rw [if_neg hw, if_pos (by omega)]
      · rw [if_neg hv, if_neg (by omega)]

/-- Clamp -/
def clampI (n lo hi : Int) : Int := if n < lo then lo else if hi < n then hi else n
theorem clampI_lo {n lo hi : Int} (h : n < lo) : clampI n lo hi = lo := by unfold clampI; rw [if_pos h]
theorem clampI_hi {n lo hi : Int} (h1 : ¬ n < lo) (h2 : hi < n) : clampI n lo hi = hi := by unfold clampI; rw [if_neg h1, if_pos h2]
theorem clampI_in {n lo hi : Int} (h1 : ¬ n < lo) (h2 : ¬ hi < n) : clampI n lo hi = n := by unfold clampI; rw [if_neg h1, if_neg h2]
/-- Pad -/
def padL (n w : Int) : List UInt8 := if n < 0 ∨ w < 0 ∨ 100 < w then [] else List.replicate (w.toNat - (itoa n).length) 48 ++ itoa n
/-- Hex -/
def hexD (n : Int) : UInt8 := if n < 10 then b8 (48 + n) else b8 (97 + n - 10)
def hexL : List UInt8 → List UInt8
  | [] => []
  | c :: r => hexD ((c.toNat : Int) / 16) :: hexD ((c.toNat : Int) % 16) :: hexL r
theorem hexL_length : ∀ l : List UInt8, (hexL l).length = 2 * l.length
  | [] => rfl
  | c :: r => by rw [hexL, List.length_cons, List.length_cons, hexL_length r, List.length_cons]; omega
theorem unhex_hexD : ∀ n : Nat, n < 16 → unhexR (hexD (n : Int)) = n := by decide +kernel
theorem unhex_hexD' {n : Int} (h0 : 0 ≤ n) (h1 : n < 16) : unhexR (hexD n) = n := by
  have := unhex_hexD n.toNat (by omega)
  rwa [Int.toNat_of_nonneg h0] at this
theorem unhex_hex : ∀ l : List UInt8, unhexL (hexL l) = some l
  | [] => rfl
  | c :: r => by
    have hc := c.toNat_lt
    have e1 := unhex_hexD' (n := (c.toNat : Int) / 16) (by omega) (by omega)
    have e2 := unhex_hexD' (n := (c.toNat : Int) % 16) (by omega) (by omega)
    rw [hexL, unhexL, e1, e2, if_pos ⟨by omega, by omega⟩, unhex_hex r]
    have : 16 * ((c.toNat : Int) / 16) + (c.toNat : Int) % 16 = c.toNat := by omega
    rw [this, b8_of]; rfl
theorem unhexL_length : ∀ (l x : List UInt8), unhexL l = some x → l.length = 2 * x.length
  | [], x, h => by simp [unhexL] at h; subst h; rfl
  | [_], x, h => by simp [unhexL] at h
  | a :: b :: r, x, h => by
    rw [unhexL] at h
    split at h
    · cases hr : unhexL r with
      | none => rw [hr] at h; cases h
      | some y =>
        rw [hr] at h
        simp at h
        subst h
        have := unhexL_length r y hr
        simp only [List.length_cons]; omega
    · cases h
theorem unhexL_odd : ∀ (l : List UInt8), l.length % 2 = 1 → unhexL l = none
  | [], h => by simp at h
  | [_], _ => rfl
  | a :: b :: r, h => by
    rw [unhexL, unhexL_odd r (by simp only [List.length_cons] at h; omega)]
    simp
theorem nd_le : ∀ (k u : Nat), u < 10 ^ (k + 1) → nDigits u ≤ k + 1
  | 0, u, h => by rw [nDigits_small (by simpa using h)]; exact Nat.le_refl _
  | k + 1, u, h => by
    by_cases h1 : u < 10
    · rw [nDigits_small h1]; omega
    · rw [nDigits_big h1]
      have := nd_le k (u / 10) (by rw [Nat.pow_succ] at h; omega)
      omega
theorem itoa_len {n : Int} (h0 : -9223372036854775808 ≤ n) (h1 : n ≤ 9223372036854775807) : (itoa n).length ≤ 20 := by
  by_cases h : n < 0
  · rw [itoa_ne h, List.length_cons, decDigits_length]
    have := nd_le 18 n.natAbs (by omega)
    omega
  · rw [itoa_pos (by omega), decDigits_length]
    have := nd_le 18 n.toNat (by omega)
    omega
end C1
