/- Walks: the laws of the lexer: the scan of a text whose run is known; small; name. -/
import Derived.Test.YtgimgkjggaijoaaGreatDoorLxE
namespace Lx
open Go Pk Go.RowKit
theorem run_total : ∀ (m : Nat) (l : List UInt8) (k : Nat), l.length ≤ m → ∃ ts e, Run l k ts e := by
  intro m
  induction m with
  | zero =>
    intro l k h
    have := List.eq_nil_of_length_eq_zero (by omega : l.length = 0)
    subst this
    exact ⟨[], none, Run.fin k⟩
  | succ m ih =>
    intro l k h
    by_cases hl : l = []
    · subst hl; exact ⟨[], none, Run.fin k⟩
    · have hp : 0 < l.length := List.length_pos_iff.2 hl
      cases hs : spaceL l with
      | none => exact ⟨[], some k, Run.bad ⟨hl, .inl hs⟩⟩
      | some n =>
        by_cases hn : 0 < n
        · obtain ⟨ts, e, hr⟩ := ih (l.drop n) (k + n) (by rw [List.length_drop]; omega)
          exact ⟨ts, e, Run.sp hn hs hr⟩
        · obtain rfl : n = 0 := by omega
          cases ht : tokenL l with
          | none => exact ⟨[], some k, Run.bad ⟨hl, .inr ⟨hs, ht⟩⟩⟩
          | some p =>
            obtain ⟨t, n⟩ := p
            have := tokenL_pos ht
            obtain ⟨ts, e, hr⟩ := ih (l.drop n) (k + n) (by rw [List.length_drop]; omega)
            exact ⟨(t, k) :: ts, e, Run.tok hl hs ht hr⟩
/-- the run, reckoned -/
def runF : Nat → List UInt8 → Nat → Option (List (Tok × Nat) × Option Nat)
  | 0, _, _ => none
  | m + 1, l, k => if l = [] then some ([], none) else match spaceL l with
    | none => some ([], some k)
    | some n => if 0 < n then runF m (l.drop n) (k + n) else match tokenL l with
      | none => some ([], some k)
      | some p => (runF m (l.drop p.2) (k + p.2)).map fun q => ((p.1, k) :: q.1, q.2)
theorem runF_run : ∀ (m : Nat) (l : List UInt8) (k : Nat) (ts : List (Tok × Nat)) (e : Option Nat), runF m l k = some (ts, e) → Run l k ts e := by
  intro m
  induction m with
  | zero => intro l k ts e h; cases h
  | succ m ih =>
    intro l k ts e h
    unfold runF at h
    by_cases hl : l = []
    · rw [if_pos hl] at h
      injection h with h
      injection h with h1 h2
      subst hl; subst h1; subst h2
      exact Run.fin k
    · rw [if_neg hl] at h
      cases hs : spaceL l with
      | none =>
        rw [hs] at h
        injection h with h
        injection h with h1 h2
        subst h1; subst h2
        exact Run.bad ⟨hl, .inl hs⟩
      | some n =>
        rw [hs] at h
        simp only at h
        by_cases hn : 0 < n
        · rw [if_pos hn] at h
          exact Run.sp hn hs (ih _ _ _ _ h)
        · rw [if_neg hn] at h
          obtain rfl : n = 0 := by omega
          cases ht : tokenL l with
          | none =>
            rw [ht] at h
            injection h with h
            injection h with h1 h2
            subst h1; subst h2
            exact Run.bad ⟨hl, .inr ⟨hs, ht⟩⟩
          | some p =>
            rw [ht] at h
            simp only at h
            cases hr : runF m (l.drop p.2) (k + p.2) with
            | none => rw [hr] at h; cases h
            | some q =>
              rw [hr] at h
              injection h with h
              injection h with h1 h2
              subst h1; subst h2
              exact Run.tok hl hs ht (ih _ _ _ _ hr)
theorem nameB_step {l : List UInt8} (hl : l ≠ []) : nameB l = (l.all (fun c => lowW c || isDig c) && !(hdP isDig l)) := by
  cases l with
  | nil => exact absurd rfl hl
  | cons c r =>
    have e : lowW c = ((lowW c || isDig c) && !(isDig c)) := by
      have h : ∀ n : Nat, n < 256 → lowW (UInt8.ofNat n) = ((lowW (UInt8.ofNat n) || isDig (UInt8.ofNat n)) && !(isDig (UInt8.ofNat n))) := by decide +kernel
      have := h c.toNat c.toNat_lt
      rwa [UInt8.ofNat_toNat] at this
    show (lowW c && r.all _) = ((lowW c || isDig c) && r.all _ && !(isDig c))
    conv => lhs; rw [e]
    rw [Bool.and_assoc, Bool.and_comm (!(isDig c)), ← Bool.and_assoc]
/-- is this byte right at this place -/
def okN (i : Nat) (c : UInt8) : Bool := lowW c || (decide (0 < i) && isDig c)
def allN : Nat → List UInt8 → Bool
  | _, [] => true
  | i, c :: r => okN i c && allN (i + 1) r
theorem allN_pos : ∀ (l : List UInt8) (i : Nat), 0 < i → allN i l = l.all fun c => lowW c || isDig c
  | [], _, _ => rfl
  | c :: r, i, h => by
    unfold allN okN
    rw [decide_eq_true h, Bool.true_and, allN_pos r (i + 1) (by omega), List.all_cons]
theorem nameB_all (l : List UInt8) : nameB l = (allN 0 l && !l.isEmpty) := by
  cases l with
  | nil => rfl
  | cons c r =>
    unfold nameB allN okN
    rw [allN_pos r 1 (by decide)]
    simp
end Lx
namespace Go.Proofs.YtgimgkjggaijoaaGreatDoor
open Go.RowKit Pk Lx

theorem scan_ok (s : ByteArray) (ts : List (Tok × Nat)) (h : Run s.data.toList 0 ts none) (w : World) (hw : LW w) (hs : s.size ≤ 5000000) :
    Calls Tryz.prog 10 #[.string s] w fun e w' => ∃ p c, e = .returned (.tuple #[.slice p ts.length c, .int .i64 0, .int .i64 0]) ∧ seesG lexLay w' w'.heap.size 41 (.slice p ts.length c) (ts.map lexOf) ∧ Below w.heap.size w w' := by
  refine (scan_any s w hw hs).mono ?_
  rintro e w' ⟨ts', h1 | ⟨k, h1, -⟩, hb⟩
  · obtain ⟨v, hr, rfl, hown⟩ := h1
    obtain ⟨rfl, -⟩ := hr.det h
    have hS := hown.sees (Nat.le_refl _)
    obtain ⟨p, c, rfl, -⟩ := hS.form
    rw [List.length_map] at hS ⊢
    exact ⟨p, c, rfl, hS, hb⟩
  · have := (h1.det h).2
    cases this
theorem scan_bad (s : ByteArray) (ts : List (Tok × Nat)) (k : Nat) (h : Run s.data.toList 0 ts (some k)) (w : World) (hw : LW w) (hs : s.size ≤ 5000000) :
    Calls Tryz.prog 10 #[.string s] w fun e w' => e = .returned (.tuple #[.slice none 0 0, .int .i64 2, .int .i64 k]) ∧ Below w.heap.size w w' := by
  refine (scan_any s w hw hs).mono ?_
  rintro e w' ⟨ts', h1 | ⟨k', h1, rfl⟩, hb⟩
  · obtain ⟨v, hr, -⟩ := h1
    have := (hr.det h).2
    cases this
  · have := (h1.det h).2
    injection this with this
    subst this
    exact ⟨rfl, hb⟩
end Go.Proofs.YtgimgkjggaijoaaGreatDoor
