/- Walks: words: plain. -/
import Derived.Test.YtafmldooephmaaaDoorWdW
import Derived.Test.YtafmldooephmaaaDoorWdE
namespace Go.Proofs.YtafmldooephmaaaDoor
open Go.RowKit Pk U8 Cs Wd

theorem dec_hi {c : UInt8} {r : List UInt8} (h : 128 ≤ c.toNat) : 128 ≤ (dec (c :: r)).1 := by
  by_cases ho : Okay (c :: r)
  · obtain ⟨h1, h2⟩ := enc_dec (c :: r) (by simp) ho
    have hw := dec_width (c :: r) (by simp)
    rcases ho with ho | ho
    · rw [at_cons0] at ho; omega
    · rcases Nat.lt_or_ge (dec (c :: r)).1 128 with hlt | hge
      · rw [enc_one _ hlt] at h2
        have := congrArg List.length h2
        rw [List.length_take] at this
        simp only [List.length_singleton] at this
        omega
      · exact hge
  · rw [dec_bad _ ho]; decide
def badR (x : Nat) : Bool := decide ((x : Int) < 32) || decide ((126 : Int) < x)
theorem okB_dec (c : UInt8) (r : List UInt8) : badR (dec (c :: r)).1 = !(okB c) := by
  unfold badR okB
  by_cases h : c.toNat < 128
  · rw [Su.dec_asc h]
    by_cases h1 : 32 ≤ c.toNat
    · by_cases h2 : c.toNat ≤ 126
      · rw [decide_eq_false (by omega), decide_eq_false (by omega), decide_eq_true h1, decide_eq_true h2]; rfl
      · rw [decide_eq_true (show (126 : Int) < c.toNat by omega), decide_eq_false h2]; simp
    · rw [decide_eq_true (show (c.toNat : Int) < 32 by omega), decide_eq_false h1]; simp
  · have := dec_hi (c := c) (r := r) (by omega)
    rw [decide_eq_true (show (126 : Int) < ((dec (c :: r)).1 : Int) by omega), decide_eq_false (show ¬ c.toNat ≤ 126 by omega)]; simp
theorem idx_ok (s : ByteArray) : ∀ (f p : Nat), s.size - p ≤ f → decide (Lib.idxFuncFrom badR true s f p < 0) = (tl s p).all okB
  | 0, p, h => by
    rw [tl_end s p (by omega)]
    rfl
  | f + 1, p, h => by
    unfold Lib.idxFuncFrom
    by_cases hp : p < s.size
    · rw [if_pos hp, dec_eq, tl_cons s p hp, okB_dec]
      cases ho : okB s[p] with
      | true =>
        have hlo : s[p].toNat < 128 := by
          unfold okB at ho
          simp only [Bool.and_eq_true, decide_eq_true_eq] at ho
          omega
        rw [if_neg (by decide), Su.dec_asc hlo, List.all_cons, ho, Bool.true_and]
        exact idx_ok s f (p + 1) (by omega)
      | false =>
        rw [if_pos (show (!false) = true by rfl), List.all_cons, ho, Bool.false_and]
        exact decide_eq_false (by omega)
    · rw [if_neg hp, tl_end s p (by omega)]; rfl
theorem contains_eq : ∀ l : List UInt8, Lib.contains l [61, 63] = !(noEq l)
  | [] => rfl
  | [a] => by
    unfold Lib.contains
    simp [Lib.index, noEq, List.isPrefixOf]
  | a :: b :: r => by
    have ih := contains_eq (b :: r)
    unfold Lib.contains at ih ⊢
    have e : Lib.index (a :: b :: r) [61, 63] = if [61, 63].isPrefixOf (a :: b :: r) = true then 0 else if (Lib.index (b :: r) [61, 63] == -1) = true then -1 else Lib.index (b :: r) [61, 63] + 1 := rfl
    have e2 : noEq (a :: b :: r) = (!(a == 61 && b == 63) && noEq (b :: r)) := rfl
    have e3 : ([61, 63] : List UInt8).isPrefixOf (a :: b :: r) = (a == 61 && b == 63) := by
      simp only [List.isPrefixOf, Bool.and_true]
      rw [show ((61 : UInt8) == a) = (a == 61) by exact BEq.comm, show ((63 : UInt8) == b) = (b == 63) by exact BEq.comm]
    rw [e, e2, e3]
    cases h : (a == 61 && b == 63) with
    | true => simp
    | false =>
      rw [if_neg (by decide)]
      simp only [Bool.not_false, Bool.true_and, ← ih]
      by_cases h2 : Lib.index (b :: r) [61, 63] = -1
      · rw [h2]; simp
      · rw [if_neg (by simpa using h2)]
        have := Lib.index_ge (b :: r) [61, 63]
        exact decide_eq_decide.2 (by omega)
set_option maxRecDepth 100000 in
theorem plainC_any (x : Nat) (w : World) : Calls Tryd.prog 48 #[.int .i32 x] w fun e w' => e = .returned (.bool (badR x)) ∧ w = w' := by
  unfold badR
  by_cases h : (x : Int) < 32
  · rw [decide_eq_true h, Bool.true_or]
    go_enter Tryd.func48, Tryd.ntmps48
    go_wp2
    go_ret
    exact ⟨rfl, rfl⟩
  · rw [decide_eq_false h, Bool.false_or]
    go_enter Tryd.func48, Tryd.ntmps48
    go_wp2
    go_ret
    exact ⟨rfl, rfl⟩
theorem ixf_any (s : ByteArray) (w : World) : Calls Tryd.prog 47 #[.string s, .func (.func 48) #[] #[]] w fun e w' => (∃ x : Int, e = .returned (.int .i64 x) ∧ decide (x < 0) = s.data.toList.all okB) ∧ Below w.heap.size w w' := by
  refine (Tryd.strings_IndexFunc_grows 48 #[] (enters_of Tryd.func48 (by kernel_rfl) rfl) badR s w fun W x _ _ => (plainC_any x W).mono fun e w' ⟨h1, h2⟩ => ⟨h1, h2 ▸ Below.refl _ _⟩).mono fun e w' ⟨h1, h2⟩ => ⟨⟨_, h1, ?_⟩, h2⟩
  have := idx_ok s s.size 0 (by omega)
  rw [tl_zero] at this
  exact this
theorem containsW (s : ByteArray) (w : World) (m : Int) (hs : s.size ≤ 3000000) (hm : w.cell? ⟨2, 0, none⟩ = some (.int .i64 m)) : Calls Tryd.prog 36 #[.string s, .string ⟨#[61, 63]⟩] w fun e w' => e = .returned (.bool (!(noEq s.data.toList))) ∧ w' = w := by
  have := Tryd.strings_Contains s ⟨#[61, 63]⟩ m w (by omega) hm
  rw [show (⟨#[61, 63]⟩ : ByteArray).data.toList = [61, 63] from rfl, contains_eq] at this
  exact this
set_option maxRecDepth 100000 in
theorem plainW_any (s : ByteArray) (w : World) (hw : Rdy w) (hs : s.size ≤ 3000000) : Calls Tryd.prog 23 #[.string s] w fun e w' => e = .returned (.bool (plainS s.data.toList)) ∧ Below w.heap.size w w' := by
  obtain ⟨m, hm⟩ := hw.max
  have hc := containsW s w m hs hm
  have HI := Lib.hid (fun w => ixf_any s w)
  unfold plainS
  cases hn : noEq s.data.toList with
  | false =>
    rw [hn] at hc
    have HC := Lib.hid hc
    rw [Bool.false_and]
    clear hc hw hm hn
    go_enter Tryd.func23, Tryd.ntmps23
    go_wp2_with (go_at_call 36; (with_reducible refine HC.out.mono ?_); rintro e w1 ⟨rfl, hw1⟩; subst w1)
    go_ret
    exact ⟨rfl, Below.refl _ _⟩
  | true =>
    rw [hn] at hc
    have HC := Lib.hid hc
    rw [Bool.true_and]
    clear hc hw hm hn
    generalize s.data.toList.all okB = b at HI
    go_enter Tryd.func23, Tryd.ntmps23
    go_wp2_with (first
      | (go_at_call 36; (with_reducible refine HC.out.mono ?_); rintro e w1 ⟨rfl, hw1⟩; subst w1)
      | (go_at_call 47; (with_reducible refine (HI.out _).mono ?_); rintro e w2 ⟨⟨x, rfl, hx⟩, hb2⟩))
    go_ret
    exact ⟨by rw [← hx]; rfl, hb2⟩
end Go.Proofs.YtafmldooephmaaaDoor
