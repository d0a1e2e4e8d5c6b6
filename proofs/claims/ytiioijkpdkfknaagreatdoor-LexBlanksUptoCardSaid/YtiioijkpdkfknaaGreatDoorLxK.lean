/- Walks: the laws of the lexer: the scan of a text whose run is known; small; name. -/
import Derived.Test.YtiioijkpdkfknaaGreatDoorLxE
namespace Lx
open Go Pk Go.RowKit
theorem run_total : ∀ (m : Nat) (l : List UInt8) (k : Nat), l.length ≤ m → ∃ ts e, Run l k ts e := by
  intro m
  induction m with
  | zero =>
    intro l k h
    have := List.eq_nil_of_length_eq_zero (by omega : l.length = 0)
    subst this
    exact ⟨[], none, Run.fin k⟩
  | succ m ih =>
    intro l k h
    by_cases hl : l = []
    · subst hl; exact ⟨[], none, Run.fin k⟩
    · have hp : 0 < l.length := List.length_pos_iff.2 hl
      cases hs : spaceL l with
      | none => exact ⟨[], some k, Run.bad ⟨hl, .inl hs⟩⟩
      | some n =>
        by_cases hn : 0 < n
        · obtain ⟨ts, e, hr⟩ := ih (l.drop n) (k + n) (by rw [List.length_drop]; omega)
          exact ⟨ts, e, Run.sp hn hs hr⟩
        · obtain rfl : n = 0 := by omega
          cases ht : tokenL l with
          | none => exact ⟨[], some k, Run.bad ⟨hl, .inr ⟨hs, ht⟩⟩⟩
          | some p =>
            obtain ⟨t, n⟩ := p
            have := tokenL_pos ht
            obtain ⟨ts, e, hr⟩ := ih (l.drop n) (k + n) (by rw [List.length_drop]; omega)
            exact ⟨(t, k) :: ts, e, Run.tok hl hs ht hr⟩
/-- the run, reckoned -/
def runF : Nat → List UInt8 → Nat → Option (List (Tok × Nat) × Option Nat)
  | 0, _, _ => none
  | m + 1, l, k => if l = [] then some ([], none) else match spaceL l with
    | none => some ([], some k)
    | some n => if 0 < n then runF m (l.drop n) (k + n) else match tokenL l with
      | none => some ([], some k)
      | some p => (runF m (l.drop p.2) (k + p.2)).map fun q => ((p.1, k) :: q.1, q.2)
theorem runF_run : ∀ (m : Nat) (l : List UInt8) (k : Nat) (ts : List (Tok × Nat)) (e : Option Nat), runF m l k = some (ts, e) → Run l k ts e := by
  intro m
  induction m with
  | zero => intro l k ts e h; cases h
  | succ m ih =>
    intro l k ts e h
    unfold runF at h
    by_cases hl : l = []
    · rw [if_pos hl] at h
      injection h with h
      injection h with h1 h2
      subst hl; subst h1; subst h2
      exact Run.fin k
    · rw [if_neg hl] at h
      cases hs : spaceL l with
      | none =>
        rw [hs] at h
        injection h with h
        injection h with h1 h2
        subst h1; subst h2
        exact Run.bad ⟨hl, .inl hs⟩
      | some n =>
        rw [hs] at h
        simp only at h
        by_cases hn : 0 < n
        · rw [if_pos hn] at h
          exact Run.sp hn hs (ih _ _ _ _ h)
        · rw [if_neg hn] at h
          obtain rfl : n = 0 := by omega
          cases ht : tokenL l with
          | none =>
            rw [ht] at h
            injection h with h
            injection h with h1 h2
            subst h1; subst h2
            exact Run.bad ⟨hl, .inr ⟨hs, ht⟩⟩
          | some p =>
            rw [ht] at h
            simp only at h
            cases hr : runF m (l.drop p.2) (k + p.2) with
            | none => rw [hr] at h; cases h
            | some q =>
              rw [hr] at h
              injection h with h
              injection h with h1 h2
              subst h1; subst h2
              exact Run.tok hl hs ht (ih _ _ _ _ hr)
def lit1 : ByteArray := ⟨#[73, 102, 32, 115, 105, 122, 101, 32, 58, 79, 118, 101, 114, 32, 50, 75, 32, 123, 32, 116, 101, 120, 116, 58, 32, 35, 32, 99, 10, 46, 46, 97, 10, 46, 10, 59, 32, 47, 42, 32, 120, 32, 42, 47, 32, 125, 32, 35, 32, 121]⟩
def lit2 : ByteArray := ⟨#[107, 101, 101, 112, 59, 32, 49, 48, 120]⟩
def lit3 : ByteArray := ⟨#[34, 97, 92, 34, 92, 98, 34, 91, 55, 93]⟩
def toks1 : List (Tok × Nat) := [(⟨1, [105, 102], 0⟩, 0), (⟨1, [115, 105, 122, 101], 0⟩, 3), (⟨2, [111, 118, 101, 114], 0⟩, 8), (⟨3, [], 2048⟩, 14), (⟨5, [123], 0⟩, 17), (⟨4, [46, 97, 10], 0⟩, 19), (⟨5, [59], 0⟩, 35), (⟨5, [125], 0⟩, 45)]
def toks3 : List (Tok × Nat) := [(⟨4, [97, 34, 98], 0⟩, 0), (⟨5, [91], 0⟩, 7), (⟨3, [], 7⟩, 8), (⟨5, [93], 0⟩, 9)]
theorem run1 : Run lit1.data.toList 0 toks1 none := runF_run 60 _ _ _ _ (by decide +kernel)
theorem run2 : Run lit2.data.toList 0 [(⟨1, [107, 101, 101, 112], 0⟩, 0), (⟨5, [59], 0⟩, 4)] (some 6) := runF_run 60 _ _ _ _ (by decide +kernel)
theorem run3 : Run lit3.data.toList 0 toks3 none := runF_run 60 _ _ _ _ (by decide +kernel)
theorem nameB_step {l : List UInt8} (hl : l ≠ []) : nameB l = (l.all (fun c => lowW c || isDig c) && !(hdP isDig l)) := by
  cases l with
  | nil => exact absurd rfl hl
  | cons c r =>
    have e : lowW c = ((lowW c || isDig c) && !(isDig c)) := by
      have h : ∀ n : Nat, n < 256 → lowW (UInt8.ofNat n) = ((lowW (UInt8.ofNat n) || isDig (UInt8.ofNat n)) && !(isDig (UInt8.ofNat n))) := by decide +kernel
      have := h c.toNat c.toNat_lt
      rwa [UInt8.ofNat_toNat] at this
    show (lowW c && r.all _) = ((lowW c || isDig c) && r.all _ && !(isDig c))
    conv => lhs; rw [e]
    rw [Bool.and_assoc, Bool.and_comm (!(isDig c)), ← Bool.and_assoc]
/-- is this byte right at this place -/
def okN (i : Nat) (c : UInt8) : Bool := lowW c || (decide (0 < i) && isDig c)
def allN : Nat → List UInt8 → Bool
  | _, [] => true
  | i, c :: r => okN i c && allN (i + 1) r
theorem allN_pos : ∀ (l : List UInt8) (i : Nat), 0 < i → allN i l = l.all fun c => lowW c || isDig c
  | [], _, _ => rfl
  | c :: r, i, h => by
    unfold allN okN
    rw [decide_eq_true h, Bool.true_and, allN_pos r (i + 1) (by omega), List.all_cons]
theorem nameB_all (l : List UInt8) : nameB l = (allN 0 l && !l.isEmpty) := by
  cases l with
  | nil => rfl
  | cons c r =>
    unfold nameB allN okN
    rw [allN_pos r 1 (by decide)]
    simp
end Lx
namespace Go.Proofs.YtiioijkpdkfknaaGreatDoor
open Go.RowKit Pk Lx

theorem scan_ok (s : ByteArray) (ts : List (Tok × Nat)) (h : Run s.data.toList 0 ts none) (w : World) (hw : LW w) (hs : s.size ≤ 5000000) :
    Calls Tryz.prog 9 #[.string s] w fun e w' => ∃ p c, e = .returned (.tuple #[.slice p ts.length c, .int .i64 0, .int .i64 0]) ∧ seesG lexLay w' w'.heap.size 28 (.slice p ts.length c) (ts.map lexOf) ∧ Below w.heap.size w w' := by
  refine (scan_any s w hw hs).mono ?_
  rintro e w' ⟨ts', h1 | ⟨k, h1, -⟩, hb⟩
  · obtain ⟨v, hr, rfl, hown⟩ := h1
    obtain ⟨rfl, -⟩ := hr.det h
    have hS := hown.sees (Nat.le_refl _)
    obtain ⟨p, c, rfl, -⟩ := hS.form
    rw [List.length_map] at hS ⊢
    exact ⟨p, c, rfl, hS, hb⟩
  · have := (h1.det h).2
    cases this
theorem scan_bad (s : ByteArray) (ts : List (Tok × Nat)) (k : Nat) (h : Run s.data.toList 0 ts (some k)) (w : World) (hw : LW w) (hs : s.size ≤ 5000000) :
    Calls Tryz.prog 9 #[.string s] w fun e w' => e = .returned (.tuple #[.slice none 0 0, .int .i64 2, .int .i64 k]) ∧ Below w.heap.size w w' := by
  refine (scan_any s w hw hs).mono ?_
  rintro e w' ⟨ts', h1 | ⟨k', h1, rfl⟩, hb⟩
  · obtain ⟨v, hr, -⟩ := h1
    have := (hr.det h).2
    cases this
  · have := (h1.det h).2
    injection this with this
    subst this
    exact ⟨rfl, hb⟩
theorem seesG_lit {W : World} {b n c : Nat} {cur : Array Value} {fz : Nat × Nat} {m : List Lex} (h : W.heap[b]? = some (.cells cur 28 fz)) (hm : cur.toList = m.flatMap lexLay.enc) (hn : n = m.length) (hc : n ≤ c) : seesG lexLay W W.heap.size 28 (.slice (some ⟨b, 0, none⟩) n c) m := by
  subst hn
  refine ⟨_, c, rfl, hc, .inr ⟨b, cur, fz, rfl, (Array.getElem?_eq_some_iff.1 h).1, h, ?_⟩⟩
  rw [← encG_length lexLay, hm, List.take_of_length_le (Nat.le_refl _)]
set_option maxHeartbeats 4000000 in
set_option maxRecDepth 100000 in
theorem small_any (w : World) (hw : LW w) : Calls Tryz.prog 8 #[] w fun e w' => e = .returned (.bool true) ∧ Below w.heap.size w w' := by
  have HW := Lib.hid (fun w1 (hb : Below w.heap.size w w1) => hw.later hb)
  have H1 := Lib.hid (fun w1 (hb : Below w.heap.size w w1) => scan_ok lit1 toks1 run1 w1 (hw.later hb) (by decide))
  have H2 := Lib.hid (fun w1 (hb : Below w.heap.size w w1) => scan_bad lit2 _ 6 run2 w1 (hw.later hb) (by decide))
  have H3 := Lib.hid (fun w1 (hb : Below w.heap.size w w1) => scan_ok lit3 toks3 run3 w1 (hw.later hb) (by decide))
  clear hw
  have tb : Below w.heap.size w w := Below.refl _ _
  go_enter Tryz.func8, Tryz.ntmps8
  go_wp2_with fail
  refine (H1.out _ tb).mono ?_
  rintro e w1 ⟨p1, c1, rfl, hs1, hb1⟩
  replace tb := tb.trans (hb1.mono tb.size)
  clear H1
  go_wp2_with fail
  refine (H2.out _ tb).mono ?_
  rintro e w2 ⟨rfl, hb2⟩
  replace tb := tb.trans (hb2.mono tb.size)
  replace hs1 := hs1.later hb2 (Nat.le_refl _)
  clear H2 hb1 hb2
  go_wp2_with fail
  refine (H3.out _ tb).mono ?_
  rintro e w3 ⟨p3, c3, rfl, hs3, hb3⟩
  replace tb := tb.trans (hb3.mono tb.size)
  replace hs1 := hs1.later hb3 (Nat.le_refl _)
  clear H3 hb3
  go_wp2_with fail
  have e1 : sameL (toks1.map lexOf) (toks1.map lexOf) = true := (sameL_iff _ _).2 rfl
  have e3 : sameL (toks3.map lexOf) (toks3.map lexOf) = true := (sameL_iff _ _).2 rfl
  have hA1 : Below w3.heap.size w3 (w3.alloc (.cells ((toks1.map lexOf).flatMap lexLay.enc).toArray 28)) := (Below.refl _ _).alloc (Nat.le_refl _) _
  refine (sameL_any _ _ (toks1.map lexOf) (toks1.map lexOf) _ (hs1.later hA1 (Nat.le_refl _)) (seesG_lit (heap_alloc_new w3 _) rfl rfl (by decide)) (by decide)).mono ?_
  rintro e w4 ⟨rfl, hb4⟩
  rw [e1]
  replace hb4 := hA1.trans (hb4.mono hA1.size)
  replace tb := tb.trans (hb4.mono tb.size)
  replace hs3 := hs3.later hb4 (Nat.le_refl _)
  clear hs1 e1 hA1 hb4
  go_wp2_with fail
  have hA3 : Below w4.heap.size w4 (w4.alloc (.cells ((toks3.map lexOf).flatMap lexLay.enc).toArray 28)) := (Below.refl _ _).alloc (Nat.le_refl _) _
  refine (sameL_any _ _ (toks3.map lexOf) (toks3.map lexOf) _ (hs3.later hA3 (Nat.le_refl _)) (seesG_lit (heap_alloc_new w4 _) rfl rfl (by decide)) (by decide)).mono ?_
  rintro e w5 ⟨rfl, hb5⟩
  rw [e3]
  replace hb5 := hA3.trans (hb5.mono hA3.size)
  replace tb := tb.trans (hb5.mono tb.size)
  clear hs3 e3 hA3 hb5
  go_wp2_with fail
  refine (lexText_any _ _ (by decide)).mono ?_
  rintro e w6 ⟨rfl, hb6⟩
  replace tb := tb.trans (hb6.mono tb.size)
  have et : toB (textL (⟨#[97, 34, 92]⟩ : ByteArray).data.toList) = ⟨#[34, 97, 92, 34, 92, 92, 34]⟩ := rfl
  rw [et]
  go_wp2
  go_ret
  exact ⟨rfl, tb⟩
end Go.Proofs.YtiioijkpdkfknaaGreatDoor
