/- Walks: chapter 11's laws: AddrCanon. -/
import Derived.Test.YtilccofdphohiaaGreatDoorLawBack
import Derived.Test.YtilccofdphohiaaGreatDoorLawBlanks
import Derived.Test.YtilccofdphohiaaGreatDoorAd7
namespace Go.Proofs.YtilccofdphohiaaGreatDoor
open Go.RowKit Pk Ad Tk Fo Su Rp

attribute [local go_sem ↓] Go.wp_at_zero Go.wp_at_succ
theorem low_up : ∀ c : UInt8, 97 ≤ c.toNat → c.toNat ≤ 122 → lowA (b8 ((c.toNat : Int) - 32)) = lowA c := fun c h1 h2 => by
  have h0 : ∀ n : Nat, n < 256 → 97 ≤ (UInt8.ofNat n).toNat → (UInt8.ofNat n).toNat ≤ 122 → lowA (b8 (((UInt8.ofNat n).toNat : Int) - 32)) = lowA (UInt8.ofNat n) := by decide +kernel
  have := h0 c.toNat c.toNat_lt
  rw [UInt8.ofNat_toNat] at this
  exact this h1 h2
theorem low_low (c : UInt8) : lowA (lowA c) = lowA c := by
  have h0 : ∀ n : Nat, n < 256 → lowA (lowA (UInt8.ofNat n)) = lowA (UInt8.ofNat n) := by decide +kernel
  have := h0 c.toNat c.toNat_lt
  rwa [UInt8.ofNat_toNat] at this
theorem lows_low (l : List UInt8) : (l.map lowA).map lowA = l.map lowA := by
  rw [List.map_map]
  congr 1
  exact funext low_low
/-- what the loop over the bytes of the domain has done -/
def UpIs (S : ByteArray) (acc : List UInt8) (k : Nat) : Prop := acc.length = k ∧ acc.map lowA ++ (tl S k).map lowA = S.data.toList.map lowA
theorem up_start (S : ByteArray) : UpIs S [] 0 := ⟨rfl, by rw [tl_zero]; rfl⟩
theorem up_step {S : ByteArray} {acc : List UInt8} {k : Nat} (h : UpIs S acc k) (hk : k < S.size) (y : UInt8) (hy : lowA y = lowA S[k]) : UpIs S (acc ++ [y]) (k + 1) := by
  obtain ⟨h1, h2⟩ := h
  rw [tl_cons S k hk, List.map_cons] at h2
  exact ⟨by rw [List.length_append, h1]; rfl, by rw [← h2, List.map_append, List.map_cons, hy]; simp⟩
theorem up_end {S : ByteArray} {acc : List UInt8} {k : Nat} (h : UpIs S acc k) (hk : ¬ k < S.size) : acc.map lowA = S.data.toList.map lowA := by
  obtain ⟨h1, h2⟩ := h
  rw [tl_end S k (by omega)] at h2
  rw [← h2]; simp
/-! the address with small letters is valid, too -/
theorem low_atm (c : UInt8) : atm (lowA c) = atm c ∧ (lowA c = 46 ↔ c = 46) ∧ (lowA c = 91 ↔ c = 91) ∧ (lowA c = 93 ↔ c = 93) ∧ (lowA c = 92 ↔ c = 92) ∧ ((decide (33 ≤ (lowA c).toNat) && !(lowA c == 127)) = (decide (33 ≤ c.toNat) && !(c == 127))) := by
  have h0 : ∀ n : Nat, n < 256 → (let c := UInt8.ofNat n; atm (lowA c) = atm c ∧ (lowA c = 46 ↔ c = 46) ∧ (lowA c = 91 ↔ c = 91) ∧ (lowA c = 93 ↔ c = 93) ∧ (lowA c = 92 ↔ c = 92) ∧ ((decide (33 ≤ (lowA c).toNat) && !(lowA c == 127)) = (decide (33 ≤ c.toNat) && !(c == 127)))) := by decide +kernel
  have := h0 c.toNat c.toNat_lt
  rw [UInt8.ofNat_toNat] at this
  exact this
theorem spl_low : ∀ l : List UInt8, spl 46 (l.map lowA) = (spl 46 l).map (List.map lowA)
  | [] => rfl
  | c :: r => by
    have ih := spl_low r
    have h46 := (low_atm c).2.1
    rw [List.map_cons]
    unfold spl
    rw [ih]
    by_cases h : c = 46
    · rw [if_pos h, if_pos (h46.2 h)]; rfl
    · rw [if_neg h, if_neg (fun e => h (h46.1 e))]
      cases hs : spl 46 r with
      | nil => rfl
      | cons x t => rfl
theorem word_low (l : List UInt8) : wordOk (l.map lowA) = wordOk l := by
  unfold wordOk
  rw [List.all_map, List.isEmpty_map]
  congr 1
  exact List.all_congr rfl (fun c => (low_atm c).1)
theorem dot_low (l : List UInt8) : dotted (l.map lowA) = dotted l := by
  unfold dotted
  rw [spl_low, List.all_map]
  exact List.all_congr rfl word_low
theorem plain_low (l : List UInt8) : plainA 33 (l.map lowA) = plainA 33 l := by
  unfold plainA
  rw [List.all_map]
  exact List.all_congr rfl (fun c => (low_atm c).2.2.2.2.2)
theorem dom_low {d : List UInt8} (h : domOk d = true) : domOk (d.map lowA) = true := by
  by_cases hd : dotted d = true
  · by_cases h91 : ∃ r, d = 91 :: r
    · obtain ⟨r, rfl⟩ := h91
      exfalso
      have hs : spl 46 (91 :: r) = match spl 46 r with | [] => [[91]] | x :: t => (91 :: x) :: t := rfl
      unfold dotted at hd
      rw [hs] at hd
      cases hsr : spl 46 r with
      | nil => exact absurd hsr (spl_ne 46 r)
      | cons x t =>
        rw [hsr] at hd
        have hd : (wordOk (91 :: x) && t.all wordOk) = true := hd
        rw [Bool.and_eq_true] at hd
        have := hd.1
        unfold wordOk at this
        rw [List.all_cons] at this
        have e : atm 91 = false := by decide
        rw [e] at this
        simp at this
    · have hn : ∀ l : List UInt8, (¬ ∃ r, l = 91 :: r) → domOk l = dotted l := fun l hl => by
        unfold domOk
        split
        · rename_i r; exact absurd ⟨r, rfl⟩ hl
        · rfl
      rw [hn _ (fun ⟨r, e⟩ => h91 (by
        cases d with
        | nil => cases e
        | cons c t =>
          rw [List.map_cons] at e
          injection e with e1 _
          exact ⟨t, by rw [(low_atm c).2.2.1.1 e1]⟩)), dot_low]
      exact hd
  · obtain ⟨x, rfl, hp, hx⟩ := domOk_form h hd
    have e : (91 :: (x ++ [93])).map lowA = 91 :: (x.map lowA ++ [93]) := by
      rw [List.map_cons, List.map_append]; rfl
    rw [e]
    show (match (x.map lowA ++ [93]).getLast? with | some 93 => plainA 33 (x.map lowA ++ [93]).dropLast && !((x.map lowA ++ [93]).dropLast.any fun c => c == 91 || c == 93 || c == 92) | _ => false) = true
    have e1 : (x.map lowA ++ [(93 : UInt8)]).getLast? = some 93 := by simp
    have e2 : (x.map lowA ++ [(93 : UInt8)]).dropLast = x.map lowA := by simp
    rw [e1, e2]
    show (plainA 33 (x.map lowA) && !((x.map lowA).any fun c => c == 91 || c == 93 || c == 92)) = true
    rw [plain_low, hp, Bool.true_and]
    have : ((x.map lowA).any fun c => c == 91 || c == 93 || c == 92) = false := by
      rw [List.any_eq_false]
      intro c hc
      obtain ⟨d, hdm, rfl⟩ := List.mem_map.1 hc
      obtain ⟨h1, h2, h3⟩ := hx d hdm
      have k1 : lowA d ≠ 91 := fun e => h1 ((low_atm d).2.2.1.1 e)
      have k2 : lowA d ≠ 93 := fun e => h2 ((low_atm d).2.2.2.1.1 e)
      have k3 : lowA d ≠ 92 := fun e => h3 ((low_atm d).2.2.2.2.1.1 e)
      rw [beq_eq_false_iff_ne.2 k1, beq_eq_false_iff_ne.2 k2, beq_eq_false_iff_ne.2 k3]; decide
    rw [this]; rfl
theorem right_low {nm lo dm : List UInt8} (h : rightA ⟨nm, lo, dm⟩ = true) : rightA ⟨[], lo, dm.map lowA⟩ = true := by
  rw [rightA_of] at h ⊢
  simp only [Bool.and_eq_true] at h ⊢
  obtain ⟨h1, h2, h3, h4, h5, h6⟩ := h
  rw [plainA_app, Bool.and_eq_true] at h5
  refine ⟨h1, h2, by rw [List.length_map]; exact h3, by decide, by rw [List.append_nil]; exact h5.1, dom_low h6⟩
end Go.Proofs.YtilccofdphohiaaGreatDoor
