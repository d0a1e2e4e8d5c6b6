/- Walks of the reference pouchref05: in, lower. Printed by gen05a.py. -/
import Derived.Test.YtlbnhkojfefccaaDoorFold2
import Derived.Test.YtlbnhkojfefccaaDoorUnitP
namespace Go.Proofs.YtlbnhkojfefccaaDoor
open Go.RowKit Pk U8 Su Fo

theorem at_g5 (s : ByteArray) (k : Nat) (h : k < s.size) : at' s.data.toList k = s[k].toNat := by
  unfold at'
  rw [List.getD_eq_getElem?_getD, List.getElem?_eq_getElem (by simpa using h)]
  rfl
def inB (n lo hi : Int) : Bool := decide (lo ≤ n ∧ n ≤ hi)
theorem inB_t {n lo hi : Int} (h1 : lo ≤ n) (h2 : n ≤ hi) : inB n lo hi = true := decide_eq_true ⟨h1, h2⟩
theorem inB_f {n lo hi : Int} (h : n < lo ∨ hi < n) : inB n lo hi = false := decide_eq_false (by omega)
theorem in_any (n lo hi : Int) (w : World) : Calls Tryd.prog 48 #[.int .i64 n, .int .i64 lo, .int .i64 hi] w fun e w' => e = .returned (.bool (inB n lo hi)) ∧ w = w' := by
  by_cases h1 : lo ≤ n
  · by_cases h2 : n ≤ hi
    · rw [inB_t h1 h2]
      go_enter Tryd.func48, Tryd.ntmps48
      go_wp2
      go_ret
      exact ⟨rfl, rfl⟩
    · rw [inB_f (.inr (by omega))]
      go_enter Tryd.func48, Tryd.ntmps48
      go_wp2
      go_ret
      exact ⟨rfl, rfl⟩
  · rw [inB_f (.inl (by omega))]
    go_enter Tryd.func48, Tryd.ntmps48
    go_wp2
    go_ret
    exact ⟨rfl, rfl⟩
theorem lowI_lit {n m : Int} (h : lowI n = m) : lowI n = m := h
theorem lowV_A : ∀ r : Nat, r < 2048 → 65 ≤ r → r ≤ 90 → lowI (r : Int) = (r : Int) + 32 := by decide +kernel
set_option maxHeartbeats 1000000 in
set_option maxRecDepth 100000 in
theorem lowR_A (r : Nat) (w : World) (h1 : 65 ≤ r) (h2 : r ≤ 90) : Calls Tryd.prog 28 #[.int .i64 r] w fun e w' => e = .returned (.int .i64 (lowI r)) ∧ w = w' := by
  rw [lowV_A r (by omega) h1 h2]
  have q0 : inB (r : Int) 65 90 = true := inB_t (by omega) (by omega)
  have q1 : inB (r : Int) 192 222 = false := inB_f (by omega)
  have q2 : inB (r : Int) 913 939 = false := inB_f (by omega)
  have q3 : inB (r : Int) 1040 1071 = false := inB_f (by omega)
  have q4 : inB (r : Int) 1024 1039 = false := inB_f (by omega)
  have q5 : inB (r : Int) 256 303 = false := inB_f (by omega)
  have q6 : inB (r : Int) 306 311 = false := inB_f (by omega)
  have q7 : inB (r : Int) 330 375 = false := inB_f (by omega)
  have q8 : inB (r : Int) 313 328 = false := inB_f (by omega)
  have q9 : inB (r : Int) 377 382 = false := inB_f (by omega)
  have q10 : inB (r : Int) 904 906 = false := inB_f (by omega)
  have e376 : ((r : Int) == 376) = false := beq_eq_false_iff_ne.2 (by omega)
  have n376 : ((r : Int) != 376) = true := bne_iff_ne.2 (by omega)
  have e902 : ((r : Int) == 902) = false := beq_eq_false_iff_ne.2 (by omega)
  have n902 : ((r : Int) != 902) = true := bne_iff_ne.2 (by omega)
  have e908 : ((r : Int) == 908) = false := beq_eq_false_iff_ne.2 (by omega)
  have n908 : ((r : Int) != 908) = true := bne_iff_ne.2 (by omega)
  have e910 : ((r : Int) == 910) = false := beq_eq_false_iff_ne.2 (by omega)
  have n910 : ((r : Int) != 910) = true := bne_iff_ne.2 (by omega)
  have e911 : ((r : Int) == 911) = false := beq_eq_false_iff_ne.2 (by omega)
  have n911 : ((r : Int) != 911) = true := bne_iff_ne.2 (by omega)
  have e215 : ((r : Int) == 215) = false := beq_eq_false_iff_ne.2 (by omega)
  have n215 : ((r : Int) != 215) = true := bne_iff_ne.2 (by omega)
  have e930 : ((r : Int) == 930) = false := beq_eq_false_iff_ne.2 (by omega)
  have n930 : ((r : Int) != 930) = true := bne_iff_ne.2 (by omega)
  have g1 : (r : Int) ≤ 2048 := by omega
  clear h1 h2
  go_enter Tryd.func28, Tryd.ntmps28
  go_wp2_with (go_at_call 48; (with_reducible refine (in_any _ _ _ _).mono ?_); rintro e w' ⟨rfl, rfl⟩)
  go_ret
  exact ⟨rfl, rfl⟩
theorem lowV_B1 : ∀ r : Nat, r < 2048 → 192 ≤ r → r ≤ 214 → lowI (r : Int) = (r : Int) + 32 := by decide +kernel
set_option maxHeartbeats 1000000 in
set_option maxRecDepth 100000 in
theorem lowR_B1 (r : Nat) (w : World) (h1 : 192 ≤ r) (h2 : r ≤ 214) : Calls Tryd.prog 28 #[.int .i64 r] w fun e w' => e = .returned (.int .i64 (lowI r)) ∧ w = w' := by
  rw [lowV_B1 r (by omega) h1 h2]
  have q0 : inB (r : Int) 65 90 = false := inB_f (by omega)
  have q1 : inB (r : Int) 192 222 = true := inB_t (by omega) (by omega)
  have q2 : inB (r : Int) 913 939 = false := inB_f (by omega)
  have q3 : inB (r : Int) 1040 1071 = false := inB_f (by omega)
  have q4 : inB (r : Int) 1024 1039 = false := inB_f (by omega)
  have q5 : inB (r : Int) 256 303 = false := inB_f (by omega)
  have q6 : inB (r : Int) 306 311 = false := inB_f (by omega)
  have q7 : inB (r : Int) 330 375 = false := inB_f (by omega)
  have q8 : inB (r : Int) 313 328 = false := inB_f (by omega)
  have q9 : inB (r : Int) 377 382 = false := inB_f (by omega)
  have q10 : inB (r : Int) 904 906 = false := inB_f (by omega)
  have e376 : ((r : Int) == 376) = false := beq_eq_false_iff_ne.2 (by omega)
  have n376 : ((r : Int) != 376) = true := bne_iff_ne.2 (by omega)
  have e902 : ((r : Int) == 902) = false := beq_eq_false_iff_ne.2 (by omega)
  have n902 : ((r : Int) != 902) = true := bne_iff_ne.2 (by omega)
  have e908 : ((r : Int) == 908) = false := beq_eq_false_iff_ne.2 (by omega)
  have n908 : ((r : Int) != 908) = true := bne_iff_ne.2 (by omega)
  have e910 : ((r : Int) == 910) = false := beq_eq_false_iff_ne.2 (by omega)
  have n910 : ((r : Int) != 910) = true := bne_iff_ne.2 (by omega)
  have e911 : ((r : Int) == 911) = false := beq_eq_false_iff_ne.2 (by omega)
  have n911 : ((r : Int) != 911) = true := bne_iff_ne.2 (by omega)
  have e215 : ((r : Int) == 215) = false := beq_eq_false_iff_ne.2 (by omega)
  have n215 : ((r : Int) != 215) = true := bne_iff_ne.2 (by omega)
  have e930 : ((r : Int) == 930) = false := beq_eq_false_iff_ne.2 (by omega)
  have n930 : ((r : Int) != 930) = true := bne_iff_ne.2 (by omega)
  have g1 : (r : Int) ≤ 2048 := by omega
  clear h1 h2
  go_enter Tryd.func28, Tryd.ntmps28
  go_wp2_with (go_at_call 48; (with_reducible refine (in_any _ _ _ _).mono ?_); rintro e w' ⟨rfl, rfl⟩)
  go_ret
  exact ⟨rfl, rfl⟩
theorem lowV_B2 : ∀ r : Nat, r < 2048 → 216 ≤ r → r ≤ 222 → lowI (r : Int) = (r : Int) + 32 := by decide +kernel
set_option maxHeartbeats 1000000 in
set_option maxRecDepth 100000 in
theorem lowR_B2 (r : Nat) (w : World) (h1 : 216 ≤ r) (h2 : r ≤ 222) : Calls Tryd.prog 28 #[.int .i64 r] w fun e w' => e = .returned (.int .i64 (lowI r)) ∧ w = w' := by
  rw [lowV_B2 r (by omega) h1 h2]
  have q0 : inB (r : Int) 65 90 = false := inB_f (by omega)
  have q1 : inB (r : Int) 192 222 = true := inB_t (by omega) (by omega)
  have q2 : inB (r : Int) 913 939 = false := inB_f (by omega)
  have q3 : inB (r : Int) 1040 1071 = false := inB_f (by omega)
  have q4 : inB (r : Int) 1024 1039 = false := inB_f (by omega)
  have q5 : inB (r : Int) 256 303 = false := inB_f (by omega)
  have q6 : inB (r : Int) 306 311 = false := inB_f (by omega)
  have q7 : inB (r : Int) 330 375 = false := inB_f (by omega)
  have q8 : inB (r : Int) 313 328 = false := inB_f (by omega)
  have q9 : inB (r : Int) 377 382 = false := inB_f (by omega)
  have q10 : inB (r : Int) 904 906 = false := inB_f (by omega)
  have e376 : ((r : Int) == 376) = false := beq_eq_false_iff_ne.2 (by omega)
  have n376 : ((r : Int) != 376) = true := bne_iff_ne.2 (by omega)
  have e902 : ((r : Int) == 902) = false := beq_eq_false_iff_ne.2 (by omega)
  have n902 : ((r : Int) != 902) = true := bne_iff_ne.2 (by omega)
  have e908 : ((r : Int) == 908) = false := beq_eq_false_iff_ne.2 (by omega)
  have n908 : ((r : Int) != 908) = true := bne_iff_ne.2 (by omega)
  have e910 : ((r : Int) == 910) = false := beq_eq_false_iff_ne.2 (by omega)
  have n910 : ((r : Int) != 910) = true := bne_iff_ne.2 (by omega)
  have e911 : ((r : Int) == 911) = false := beq_eq_false_iff_ne.2 (by omega)
  have n911 : ((r : Int) != 911) = true := bne_iff_ne.2 (by omega)
  have e215 : ((r : Int) == 215) = false := beq_eq_false_iff_ne.2 (by omega)
  have n215 : ((r : Int) != 215) = true := bne_iff_ne.2 (by omega)
  have e930 : ((r : Int) == 930) = false := beq_eq_false_iff_ne.2 (by omega)
  have n930 : ((r : Int) != 930) = true := bne_iff_ne.2 (by omega)
  have g1 : (r : Int) ≤ 2048 := by omega
  clear h1 h2
  go_enter Tryd.func28, Tryd.ntmps28
  go_wp2_with (go_at_call 48; (with_reducible refine (in_any _ _ _ _).mono ?_); rintro e w' ⟨rfl, rfl⟩)
  go_ret
  exact ⟨rfl, rfl⟩
theorem lowV_C1 : ∀ r : Nat, r < 2048 → 913 ≤ r → r ≤ 929 → lowI (r : Int) = (r : Int) + 32 := by decide +kernel
set_option maxHeartbeats 1000000 in
set_option maxRecDepth 100000 in
theorem lowR_C1 (r : Nat) (w : World) (h1 : 913 ≤ r) (h2 : r ≤ 929) : Calls Tryd.prog 28 #[.int .i64 r] w fun e w' => e = .returned (.int .i64 (lowI r)) ∧ w = w' := by
  rw [lowV_C1 r (by omega) h1 h2]
  have q0 : inB (r : Int) 65 90 = false := inB_f (by omega)
  have q1 : inB (r : Int) 192 222 = false := inB_f (by omega)
  have q2 : inB (r : Int) 913 939 = true := inB_t (by omega) (by omega)
  have q3 : inB (r : Int) 1040 1071 = false := inB_f (by omega)
  have q4 : inB (r : Int) 1024 1039 = false := inB_f (by omega)
  have q5 : inB (r : Int) 256 303 = false := inB_f (by omega)
  have q6 : inB (r : Int) 306 311 = false := inB_f (by omega)
  have q7 : inB (r : Int) 330 375 = false := inB_f (by omega)
  have q8 : inB (r : Int) 313 328 = false := inB_f (by omega)
  have q9 : inB (r : Int) 377 382 = false := inB_f (by omega)
  have q10 : inB (r : Int) 904 906 = false := inB_f (by omega)
  have e376 : ((r : Int) == 376) = false := beq_eq_false_iff_ne.2 (by omega)
  have n376 : ((r : Int) != 376) = true := bne_iff_ne.2 (by omega)
  have e902 : ((r : Int) == 902) = false := beq_eq_false_iff_ne.2 (by omega)
  have n902 : ((r : Int) != 902) = true := bne_iff_ne.2 (by omega)
  have e908 : ((r : Int) == 908) = false := beq_eq_false_iff_ne.2 (by omega)
  have n908 : ((r : Int) != 908) = true := bne_iff_ne.2 (by omega)
  have e910 : ((r : Int) == 910) = false := beq_eq_false_iff_ne.2 (by omega)
  have n910 : ((r : Int) != 910) = true := bne_iff_ne.2 (by omega)
  have e911 : ((r : Int) == 911) = false := beq_eq_false_iff_ne.2 (by omega)
  have n911 : ((r : Int) != 911) = true := bne_iff_ne.2 (by omega)
  have e215 : ((r : Int) == 215) = false := beq_eq_false_iff_ne.2 (by omega)
  have n215 : ((r : Int) != 215) = true := bne_iff_ne.2 (by omega)
  have e930 : ((r : Int) == 930) = false := beq_eq_false_iff_ne.2 (by omega)
  have n930 : ((r : Int) != 930) = true := bne_iff_ne.2 (by omega)
  have g1 : (r : Int) ≤ 2048 := by omega
  clear h1 h2
  go_enter Tryd.func28, Tryd.ntmps28
  go_wp2_with (go_at_call 48; (with_reducible refine (in_any _ _ _ _).mono ?_); rintro e w' ⟨rfl, rfl⟩)
  go_ret
  exact ⟨rfl, rfl⟩
theorem lowV_C2 : ∀ r : Nat, r < 2048 → 931 ≤ r → r ≤ 939 → lowI (r : Int) = (r : Int) + 32 := by decide +kernel
set_option maxHeartbeats 1000000 in
set_option maxRecDepth 100000 in
theorem lowR_C2 (r : Nat) (w : World) (h1 : 931 ≤ r) (h2 : r ≤ 939) : Calls Tryd.prog 28 #[.int .i64 r] w fun e w' => e = .returned (.int .i64 (lowI r)) ∧ w = w' := by
  rw [lowV_C2 r (by omega) h1 h2]
  have q0 : inB (r : Int) 65 90 = false := inB_f (by omega)
  have q1 : inB (r : Int) 192 222 = false := inB_f (by omega)
  have q2 : inB (r : Int) 913 939 = true := inB_t (by omega) (by omega)
  have q3 : inB (r : Int) 1040 1071 = false := inB_f (by omega)
  have q4 : inB (r : Int) 1024 1039 = false := inB_f (by omega)
  have q5 : inB (r : Int) 256 303 = false := inB_f (by omega)
  have q6 : inB (r : Int) 306 311 = false := inB_f (by omega)
  have q7 : inB (r : Int) 330 375 = false := inB_f (by omega)
  have q8 : inB (r : Int) 313 328 = false := inB_f (by omega)
  have q9 : inB (r : Int) 377 382 = false := inB_f (by omega)
  have q10 : inB (r : Int) 904 906 = false := inB_f (by omega)
  have e376 : ((r : Int) == 376) = false := beq_eq_false_iff_ne.2 (by omega)
  have n376 : ((r : Int) != 376) = true := bne_iff_ne.2 (by omega)
  have e902 : ((r : Int) == 902) = false := beq_eq_false_iff_ne.2 (by omega)
  have n902 : ((r : Int) != 902) = true := bne_iff_ne.2 (by omega)
  have e908 : ((r : Int) == 908) = false := beq_eq_false_iff_ne.2 (by omega)
  have n908 : ((r : Int) != 908) = true := bne_iff_ne.2 (by omega)
  have e910 : ((r : Int) == 910) = false := beq_eq_false_iff_ne.2 (by omega)
  have n910 : ((r : Int) != 910) = true := bne_iff_ne.2 (by omega)
  have e911 : ((r : Int) == 911) = false := beq_eq_false_iff_ne.2 (by omega)
  have n911 : ((r : Int) != 911) = true := bne_iff_ne.2 (by omega)
  have e215 : ((r : Int) == 215) = false := beq_eq_false_iff_ne.2 (by omega)
  have n215 : ((r : Int) != 215) = true := bne_iff_ne.2 (by omega)
  have e930 : ((r : Int) == 930) = false := beq_eq_false_iff_ne.2 (by omega)
  have n930 : ((r : Int) != 930) = true := bne_iff_ne.2 (by omega)
  have g1 : (r : Int) ≤ 2048 := by omega
  clear h1 h2
  go_enter Tryd.func28, Tryd.ntmps28
  go_wp2_with (go_at_call 48; (with_reducible refine (in_any _ _ _ _).mono ?_); rintro e w' ⟨rfl, rfl⟩)
  go_ret
  exact ⟨rfl, rfl⟩
theorem lowV_D : ∀ r : Nat, r < 2048 → 1040 ≤ r → r ≤ 1071 → lowI (r : Int) = (r : Int) + 32 := by decide +kernel
set_option maxHeartbeats 1000000 in
set_option maxRecDepth 100000 in
theorem lowR_D (r : Nat) (w : World) (h1 : 1040 ≤ r) (h2 : r ≤ 1071) : Calls Tryd.prog 28 #[.int .i64 r] w fun e w' => e = .returned (.int .i64 (lowI r)) ∧ w = w' := by
  rw [lowV_D r (by omega) h1 h2]
  have q0 : inB (r : Int) 65 90 = false := inB_f (by omega)
  have q1 : inB (r : Int) 192 222 = false := inB_f (by omega)
  have q2 : inB (r : Int) 913 939 = false := inB_f (by omega)
  have q3 : inB (r : Int) 1040 1071 = true := inB_t (by omega) (by omega)
  have q4 : inB (r : Int) 1024 1039 = false := inB_f (by omega)
  have q5 : inB (r : Int) 256 303 = false := inB_f (by omega)
  have q6 : inB (r : Int) 306 311 = false := inB_f (by omega)
  have q7 : inB (r : Int) 330 375 = false := inB_f (by omega)
  have q8 : inB (r : Int) 313 328 = false := inB_f (by omega)
  have q9 : inB (r : Int) 377 382 = false := inB_f (by omega)
  have q10 : inB (r : Int) 904 906 = false := inB_f (by omega)
  have e376 : ((r : Int) == 376) = false := beq_eq_false_iff_ne.2 (by omega)
  have n376 : ((r : Int) != 376) = true := bne_iff_ne.2 (by omega)
  have e902 : ((r : Int) == 902) = false := beq_eq_false_iff_ne.2 (by omega)
  have n902 : ((r : Int) != 902) = true := bne_iff_ne.2 (by omega)
  have e908 : ((r : Int) == 908) = false := beq_eq_false_iff_ne.2 (by omega)
  have n908 : ((r : Int) != 908) = true := bne_iff_ne.2 (by omega)
  have e910 : ((r : Int) == 910) = false := beq_eq_false_iff_ne.2 (by omega)
  have n910 : ((r : Int) != 910) = true := bne_iff_ne.2 (by omega)
  have e911 : ((r : Int) == 911) = false := beq_eq_false_iff_ne.2 (by omega)
  have n911 : ((r : Int) != 911) = true := bne_iff_ne.2 (by omega)
  have e215 : ((r : Int) == 215) = false := beq_eq_false_iff_ne.2 (by omega)
  have n215 : ((r : Int) != 215) = true := bne_iff_ne.2 (by omega)
  have e930 : ((r : Int) == 930) = false := beq_eq_false_iff_ne.2 (by omega)
  have n930 : ((r : Int) != 930) = true := bne_iff_ne.2 (by omega)
  have g1 : (r : Int) ≤ 2048 := by omega
  clear h1 h2
  go_enter Tryd.func28, Tryd.ntmps28
  go_wp2_with (go_at_call 48; (with_reducible refine (in_any _ _ _ _).mono ?_); rintro e w' ⟨rfl, rfl⟩)
  go_ret
  exact ⟨rfl, rfl⟩
theorem lowV_E : ∀ r : Nat, r < 2048 → 1024 ≤ r → r ≤ 1039 → lowI (r : Int) = (r : Int) + 80 := by decide +kernel
set_option maxHeartbeats 1000000 in
set_option maxRecDepth 100000 in
theorem lowR_E (r : Nat) (w : World) (h1 : 1024 ≤ r) (h2 : r ≤ 1039) : Calls Tryd.prog 28 #[.int .i64 r] w fun e w' => e = .returned (.int .i64 (lowI r)) ∧ w = w' := by
  rw [lowV_E r (by omega) h1 h2]
  have q0 : inB (r : Int) 65 90 = false := inB_f (by omega)
  have q1 : inB (r : Int) 192 222 = false := inB_f (by omega)
  have q2 : inB (r : Int) 913 939 = false := inB_f (by omega)
  have q3 : inB (r : Int) 1040 1071 = false := inB_f (by omega)
  have q4 : inB (r : Int) 1024 1039 = true := inB_t (by omega) (by omega)
  have q5 : inB (r : Int) 256 303 = false := inB_f (by omega)
  have q6 : inB (r : Int) 306 311 = false := inB_f (by omega)
  have q7 : inB (r : Int) 330 375 = false := inB_f (by omega)
  have q8 : inB (r : Int) 313 328 = false := inB_f (by omega)
  have q9 : inB (r : Int) 377 382 = false := inB_f (by omega)
  have q10 : inB (r : Int) 904 906 = false := inB_f (by omega)
  have e376 : ((r : Int) == 376) = false := beq_eq_false_iff_ne.2 (by omega)
  have n376 : ((r : Int) != 376) = true := bne_iff_ne.2 (by omega)
  have e902 : ((r : Int) == 902) = false := beq_eq_false_iff_ne.2 (by omega)
  have n902 : ((r : Int) != 902) = true := bne_iff_ne.2 (by omega)
  have e908 : ((r : Int) == 908) = false := beq_eq_false_iff_ne.2 (by omega)
  have n908 : ((r : Int) != 908) = true := bne_iff_ne.2 (by omega)
  have e910 : ((r : Int) == 910) = false := beq_eq_false_iff_ne.2 (by omega)
  have n910 : ((r : Int) != 910) = true := bne_iff_ne.2 (by omega)
  have e911 : ((r : Int) == 911) = false := beq_eq_false_iff_ne.2 (by omega)
  have n911 : ((r : Int) != 911) = true := bne_iff_ne.2 (by omega)
  have e215 : ((r : Int) == 215) = false := beq_eq_false_iff_ne.2 (by omega)
  have n215 : ((r : Int) != 215) = true := bne_iff_ne.2 (by omega)
  have e930 : ((r : Int) == 930) = false := beq_eq_false_iff_ne.2 (by omega)
  have n930 : ((r : Int) != 930) = true := bne_iff_ne.2 (by omega)
  have g1 : (r : Int) ≤ 2048 := by omega
  clear h1 h2
  go_enter Tryd.func28, Tryd.ntmps28
  go_wp2_with (go_at_call 48; (with_reducible refine (in_any _ _ _ _).mono ?_); rintro e w' ⟨rfl, rfl⟩)
  go_ret
  exact ⟨rfl, rfl⟩
theorem lowV_F1 : ∀ r : Nat, r < 2048 → 256 ≤ r → r ≤ 303 → r % 2 = 0 → lowI (r : Int) = (r : Int) + 1 := by decide +kernel
set_option maxHeartbeats 1000000 in
set_option maxRecDepth 100000 in
theorem lowR_F1 (r : Nat) (w : World) (h1 : 256 ≤ r) (h2 : r ≤ 303) (hp : r % 2 = 0) : Calls Tryd.prog 28 #[.int .i64 r] w fun e w' => e = .returned (.int .i64 (lowI r)) ∧ w = w' := by
  rw [lowV_F1 r (by omega) h1 h2 hp]
  have q0 : inB (r : Int) 65 90 = false := inB_f (by omega)
  have q1 : inB (r : Int) 192 222 = false := inB_f (by omega)
  have q2 : inB (r : Int) 913 939 = false := inB_f (by omega)
  have q3 : inB (r : Int) 1040 1071 = false := inB_f (by omega)
  have q4 : inB (r : Int) 1024 1039 = false := inB_f (by omega)
  have q5 : inB (r : Int) 256 303 = true := inB_t (by omega) (by omega)
  have q6 : inB (r : Int) 306 311 = false := inB_f (by omega)
  have q7 : inB (r : Int) 330 375 = false := inB_f (by omega)
  have q8 : inB (r : Int) 313 328 = false := inB_f (by omega)
  have q9 : inB (r : Int) 377 382 = false := inB_f (by omega)
  have q10 : inB (r : Int) 904 906 = false := inB_f (by omega)
  have e376 : ((r : Int) == 376) = false := beq_eq_false_iff_ne.2 (by omega)
  have n376 : ((r : Int) != 376) = true := bne_iff_ne.2 (by omega)
  have e902 : ((r : Int) == 902) = false := beq_eq_false_iff_ne.2 (by omega)
  have n902 : ((r : Int) != 902) = true := bne_iff_ne.2 (by omega)
  have e908 : ((r : Int) == 908) = false := beq_eq_false_iff_ne.2 (by omega)
  have n908 : ((r : Int) != 908) = true := bne_iff_ne.2 (by omega)
  have e910 : ((r : Int) == 910) = false := beq_eq_false_iff_ne.2 (by omega)
  have n910 : ((r : Int) != 910) = true := bne_iff_ne.2 (by omega)
  have e911 : ((r : Int) == 911) = false := beq_eq_false_iff_ne.2 (by omega)
  have n911 : ((r : Int) != 911) = true := bne_iff_ne.2 (by omega)
  have e215 : ((r : Int) == 215) = false := beq_eq_false_iff_ne.2 (by omega)
  have n215 : ((r : Int) != 215) = true := bne_iff_ne.2 (by omega)
  have e930 : ((r : Int) == 930) = false := beq_eq_false_iff_ne.2 (by omega)
  have n930 : ((r : Int) != 930) = true := bne_iff_ne.2 (by omega)
  have hq : ((r : Int) % 2 == 0) = true := beq_iff_eq.2 (by omega)
  clear hp
  have g1 : (r : Int) ≤ 2048 := by omega
  clear h1 h2
  go_enter Tryd.func28, Tryd.ntmps28
  go_wp2_with (go_at_call 48; (with_reducible refine (in_any _ _ _ _).mono ?_); rintro e w' ⟨rfl, rfl⟩)
  go_ret
  exact ⟨rfl, rfl⟩
theorem lowV_F2 : ∀ r : Nat, r < 2048 → 306 ≤ r → r ≤ 311 → r % 2 = 0 → lowI (r : Int) = (r : Int) + 1 := by decide +kernel
set_option maxHeartbeats 1000000 in
set_option maxRecDepth 100000 in
theorem lowR_F2 (r : Nat) (w : World) (h1 : 306 ≤ r) (h2 : r ≤ 311) (hp : r % 2 = 0) : Calls Tryd.prog 28 #[.int .i64 r] w fun e w' => e = .returned (.int .i64 (lowI r)) ∧ w = w' := by
  rw [lowV_F2 r (by omega) h1 h2 hp]
  have q0 : inB (r : Int) 65 90 = false := inB_f (by omega)
  have q1 : inB (r : Int) 192 222 = false := inB_f (by omega)
  have q2 : inB (r : Int) 913 939 = false := inB_f (by omega)
  have q3 : inB (r : Int) 1040 1071 = false := inB_f (by omega)
  have q4 : inB (r : Int) 1024 1039 = false := inB_f (by omega)
  have q5 : inB (r : Int) 256 303 = false := inB_f (by omega)
  have q6 : inB (r : Int) 306 311 = true := inB_t (by omega) (by omega)
  have q7 : inB (r : Int) 330 375 = false := inB_f (by omega)
  have q8 : inB (r : Int) 313 328 = false := inB_f (by omega)
  have q9 : inB (r : Int) 377 382 = false := inB_f (by omega)
  have q10 : inB (r : Int) 904 906 = false := inB_f (by omega)
  have e376 : ((r : Int) == 376) = false := beq_eq_false_iff_ne.2 (by omega)
  have n376 : ((r : Int) != 376) = true := bne_iff_ne.2 (by omega)
  have e902 : ((r : Int) == 902) = false := beq_eq_false_iff_ne.2 (by omega)
  have n902 : ((r : Int) != 902) = true := bne_iff_ne.2 (by omega)
  have e908 : ((r : Int) == 908) = false := beq_eq_false_iff_ne.2 (by omega)
  have n908 : ((r : Int) != 908) = true := bne_iff_ne.2 (by omega)
  have e910 : ((r : Int) == 910) = false := beq_eq_false_iff_ne.2 (by omega)
  have n910 : ((r : Int) != 910) = true := bne_iff_ne.2 (by omega)
  have e911 : ((r : Int) == 911) = false := beq_eq_false_iff_ne.2 (by omega)
  have n911 : ((r : Int) != 911) = true := bne_iff_ne.2 (by omega)
  have e215 : ((r : Int) == 215) = false := beq_eq_false_iff_ne.2 (by omega)
  have n215 : ((r : Int) != 215) = true := bne_iff_ne.2 (by omega)
  have e930 : ((r : Int) == 930) = false := beq_eq_false_iff_ne.2 (by omega)
  have n930 : ((r : Int) != 930) = true := bne_iff_ne.2 (by omega)
  have hq : ((r : Int) % 2 == 0) = true := beq_iff_eq.2 (by omega)
  clear hp
  have g1 : (r : Int) ≤ 2048 := by omega
  clear h1 h2
  go_enter Tryd.func28, Tryd.ntmps28
  go_wp2_with (go_at_call 48; (with_reducible refine (in_any _ _ _ _).mono ?_); rintro e w' ⟨rfl, rfl⟩)
  go_ret
  exact ⟨rfl, rfl⟩
theorem lowV_F3 : ∀ r : Nat, r < 2048 → 330 ≤ r → r ≤ 375 → r % 2 = 0 → lowI (r : Int) = (r : Int) + 1 := by decide +kernel
set_option maxHeartbeats 1000000 in
set_option maxRecDepth 100000 in
theorem lowR_F3 (r : Nat) (w : World) (h1 : 330 ≤ r) (h2 : r ≤ 375) (hp : r % 2 = 0) : Calls Tryd.prog 28 #[.int .i64 r] w fun e w' => e = .returned (.int .i64 (lowI r)) ∧ w = w' := by
  rw [lowV_F3 r (by omega) h1 h2 hp]
  have q0 : inB (r : Int) 65 90 = false := inB_f (by omega)
  have q1 : inB (r : Int) 192 222 = false := inB_f (by omega)
  have q2 : inB (r : Int) 913 939 = false := inB_f (by omega)
  have q3 : inB (r : Int) 1040 1071 = false := inB_f (by omega)
  have q4 : inB (r : Int) 1024 1039 = false := inB_f (by omega)
  have q5 : inB (r : Int) 256 303 = false := inB_f (by omega)
  have q6 : inB (r : Int) 306 311 = false := inB_f (by omega)
  have q7 : inB (r : Int) 330 375 = true := inB_t (by omega) (by omega)
  have q8 : inB (r : Int) 313 328 = false := inB_f (by omega)
  have q9 : inB (r : Int) 377 382 = false := inB_f (by omega)
  have q10 : inB (r : Int) 904 906 = false := inB_f (by omega)
  have e376 : ((r : Int) == 376) = false := beq_eq_false_iff_ne.2 (by omega)
  have n376 : ((r : Int) != 376) = true := bne_iff_ne.2 (by omega)
  have e902 : ((r : Int) == 902) = false := beq_eq_false_iff_ne.2 (by omega)
  have n902 : ((r : Int) != 902) = true := bne_iff_ne.2 (by omega)
  have e908 : ((r : Int) == 908) = false := beq_eq_false_iff_ne.2 (by omega)
  have n908 : ((r : Int) != 908) = true := bne_iff_ne.2 (by omega)
  have e910 : ((r : Int) == 910) = false := beq_eq_false_iff_ne.2 (by omega)
  have n910 : ((r : Int) != 910) = true := bne_iff_ne.2 (by omega)
  have e911 : ((r : Int) == 911) = false := beq_eq_false_iff_ne.2 (by omega)
  have n911 : ((r : Int) != 911) = true := bne_iff_ne.2 (by omega)
  have e215 : ((r : Int) == 215) = false := beq_eq_false_iff_ne.2 (by omega)
  have n215 : ((r : Int) != 215) = true := bne_iff_ne.2 (by omega)
  have e930 : ((r : Int) == 930) = false := beq_eq_false_iff_ne.2 (by omega)
  have n930 : ((r : Int) != 930) = true := bne_iff_ne.2 (by omega)
  have hq : ((r : Int) % 2 == 0) = true := beq_iff_eq.2 (by omega)
  clear hp
  have g1 : (r : Int) ≤ 2048 := by omega
  clear h1 h2
  go_enter Tryd.func28, Tryd.ntmps28
  go_wp2_with (go_at_call 48; (with_reducible refine (in_any _ _ _ _).mono ?_); rintro e w' ⟨rfl, rfl⟩)
  go_ret
  exact ⟨rfl, rfl⟩
theorem lowV_G1 : ∀ r : Nat, r < 2048 → 313 ≤ r → r ≤ 328 → r % 2 = 1 → lowI (r : Int) = (r : Int) + 1 := by decide +kernel
set_option maxHeartbeats 1000000 in
set_option maxRecDepth 100000 in
theorem lowR_G1 (r : Nat) (w : World) (h1 : 313 ≤ r) (h2 : r ≤ 328) (hp : r % 2 = 1) : Calls Tryd.prog 28 #[.int .i64 r] w fun e w' => e = .returned (.int .i64 (lowI r)) ∧ w = w' := by
  rw [lowV_G1 r (by omega) h1 h2 hp]
  have q0 : inB (r : Int) 65 90 = false := inB_f (by omega)
  have q1 : inB (r : Int) 192 222 = false := inB_f (by omega)
  have q2 : inB (r : Int) 913 939 = false := inB_f (by omega)
  have q3 : inB (r : Int) 1040 1071 = false := inB_f (by omega)
  have q4 : inB (r : Int) 1024 1039 = false := inB_f (by omega)
  have q5 : inB (r : Int) 256 303 = false := inB_f (by omega)
  have q6 : inB (r : Int) 306 311 = false := inB_f (by omega)
  have q7 : inB (r : Int) 330 375 = false := inB_f (by omega)
  have q8 : inB (r : Int) 313 328 = true := inB_t (by omega) (by omega)
  have q9 : inB (r : Int) 377 382 = false := inB_f (by omega)
  have q10 : inB (r : Int) 904 906 = false := inB_f (by omega)
  have e376 : ((r : Int) == 376) = false := beq_eq_false_iff_ne.2 (by omega)
  have n376 : ((r : Int) != 376) = true := bne_iff_ne.2 (by omega)
  have e902 : ((r : Int) == 902) = false := beq_eq_false_iff_ne.2 (by omega)
  have n902 : ((r : Int) != 902) = true := bne_iff_ne.2 (by omega)
  have e908 : ((r : Int) == 908) = false := beq_eq_false_iff_ne.2 (by omega)
  have n908 : ((r : Int) != 908) = true := bne_iff_ne.2 (by omega)
  have e910 : ((r : Int) == 910) = false := beq_eq_false_iff_ne.2 (by omega)
  have n910 : ((r : Int) != 910) = true := bne_iff_ne.2 (by omega)
  have e911 : ((r : Int) == 911) = false := beq_eq_false_iff_ne.2 (by omega)
  have n911 : ((r : Int) != 911) = true := bne_iff_ne.2 (by omega)
  have e215 : ((r : Int) == 215) = false := beq_eq_false_iff_ne.2 (by omega)
  have n215 : ((r : Int) != 215) = true := bne_iff_ne.2 (by omega)
  have e930 : ((r : Int) == 930) = false := beq_eq_false_iff_ne.2 (by omega)
  have n930 : ((r : Int) != 930) = true := bne_iff_ne.2 (by omega)
  have hq : ((r : Int) % 2 == 0) = false := beq_eq_false_iff_ne.2 (by omega)
  clear hp
  have g1 : (r : Int) ≤ 2048 := by omega
  clear h1 h2
  go_enter Tryd.func28, Tryd.ntmps28
  go_wp2_with (go_at_call 48; (with_reducible refine (in_any _ _ _ _).mono ?_); rintro e w' ⟨rfl, rfl⟩)
  go_ret
  exact ⟨rfl, rfl⟩
theorem lowV_G2 : ∀ r : Nat, r < 2048 → 377 ≤ r → r ≤ 382 → r % 2 = 1 → lowI (r : Int) = (r : Int) + 1 := by decide +kernel
set_option maxHeartbeats 1000000 in
set_option maxRecDepth 100000 in
theorem lowR_G2 (r : Nat) (w : World) (h1 : 377 ≤ r) (h2 : r ≤ 382) (hp : r % 2 = 1) : Calls Tryd.prog 28 #[.int .i64 r] w fun e w' => e = .returned (.int .i64 (lowI r)) ∧ w = w' := by
  rw [lowV_G2 r (by omega) h1 h2 hp]
  have q0 : inB (r : Int) 65 90 = false := inB_f (by omega)
  have q1 : inB (r : Int) 192 222 = false := inB_f (by omega)
  have q2 : inB (r : Int) 913 939 = false := inB_f (by omega)
  have q3 : inB (r : Int) 1040 1071 = false := inB_f (by omega)
  have q4 : inB (r : Int) 1024 1039 = false := inB_f (by omega)
  have q5 : inB (r : Int) 256 303 = false := inB_f (by omega)
  have q6 : inB (r : Int) 306 311 = false := inB_f (by omega)
  have q7 : inB (r : Int) 330 375 = false := inB_f (by omega)
  have q8 : inB (r : Int) 313 328 = false := inB_f (by omega)
  have q9 : inB (r : Int) 377 382 = true := inB_t (by omega) (by omega)
  have q10 : inB (r : Int) 904 906 = false := inB_f (by omega)
  have e376 : ((r : Int) == 376) = false := beq_eq_false_iff_ne.2 (by omega)
  have n376 : ((r : Int) != 376) = true := bne_iff_ne.2 (by omega)
  have e902 : ((r : Int) == 902) = false := beq_eq_false_iff_ne.2 (by omega)
  have n902 : ((r : Int) != 902) = true := bne_iff_ne.2 (by omega)
  have e908 : ((r : Int) == 908) = false := beq_eq_false_iff_ne.2 (by omega)
  have n908 : ((r : Int) != 908) = true := bne_iff_ne.2 (by omega)
  have e910 : ((r : Int) == 910) = false := beq_eq_false_iff_ne.2 (by omega)
  have n910 : ((r : Int) != 910) = true := bne_iff_ne.2 (by omega)
  have e911 : ((r : Int) == 911) = false := beq_eq_false_iff_ne.2 (by omega)
  have n911 : ((r : Int) != 911) = true := bne_iff_ne.2 (by omega)
  have e215 : ((r : Int) == 215) = false := beq_eq_false_iff_ne.2 (by omega)
  have n215 : ((r : Int) != 215) = true := bne_iff_ne.2 (by omega)
  have e930 : ((r : Int) == 930) = false := beq_eq_false_iff_ne.2 (by omega)
  have n930 : ((r : Int) != 930) = true := bne_iff_ne.2 (by omega)
  have hq : ((r : Int) % 2 == 0) = false := beq_eq_false_iff_ne.2 (by omega)
  clear hp
  have g1 : (r : Int) ≤ 2048 := by omega
  clear h1 h2
  go_enter Tryd.func28, Tryd.ntmps28
  go_wp2_with (go_at_call 48; (with_reducible refine (in_any _ _ _ _).mono ?_); rintro e w' ⟨rfl, rfl⟩)
  go_ret
  exact ⟨rfl, rfl⟩
set_option maxHeartbeats 1000000 in
set_option maxRecDepth 100000 in
theorem lowR_376 (w : World) : Calls Tryd.prog 28 #[.int .i64 376] w fun e w' => e = .returned (.int .i64 255) ∧ w = w' := by
  have q0 : inB 376 65 90 = false := by decide
  have q1 : inB 376 192 222 = false := by decide
  have q2 : inB 376 913 939 = false := by decide
  have q3 : inB 376 1040 1071 = false := by decide
  have q4 : inB 376 1024 1039 = false := by decide
  have q5 : inB 376 256 303 = false := by decide
  have q6 : inB 376 306 311 = false := by decide
  have q7 : inB 376 330 375 = false := by decide
  have q8 : inB 376 313 328 = false := by decide
  have q9 : inB 376 377 382 = false := by decide
  have q10 : inB 376 904 906 = false := by decide
  go_enter Tryd.func28, Tryd.ntmps28
  go_wp2_with (go_at_call 48; (with_reducible refine (in_any _ _ _ _).mono ?_); rintro e w' ⟨rfl, rfl⟩)
  go_ret
  exact ⟨rfl, rfl⟩
set_option maxHeartbeats 1000000 in
set_option maxRecDepth 100000 in
theorem lowR_902 (w : World) : Calls Tryd.prog 28 #[.int .i64 902] w fun e w' => e = .returned (.int .i64 940) ∧ w = w' := by
  have q0 : inB 902 65 90 = false := by decide
  have q1 : inB 902 192 222 = false := by decide
  have q2 : inB 902 913 939 = false := by decide
  have q3 : inB 902 1040 1071 = false := by decide
  have q4 : inB 902 1024 1039 = false := by decide
  have q5 : inB 902 256 303 = false := by decide
  have q6 : inB 902 306 311 = false := by decide
  have q7 : inB 902 330 375 = false := by decide
  have q8 : inB 902 313 328 = false := by decide
  have q9 : inB 902 377 382 = false := by decide
  have q10 : inB 902 904 906 = false := by decide
  go_enter Tryd.func28, Tryd.ntmps28
  go_wp2_with (go_at_call 48; (with_reducible refine (in_any _ _ _ _).mono ?_); rintro e w' ⟨rfl, rfl⟩)
  go_ret
  exact ⟨rfl, rfl⟩
set_option maxHeartbeats 1000000 in
set_option maxRecDepth 100000 in
theorem lowR_904 (w : World) : Calls Tryd.prog 28 #[.int .i64 904] w fun e w' => e = .returned (.int .i64 941) ∧ w = w' := by
  have q0 : inB 904 65 90 = false := by decide
  have q1 : inB 904 192 222 = false := by decide
  have q2 : inB 904 913 939 = false := by decide
  have q3 : inB 904 1040 1071 = false := by decide
  have q4 : inB 904 1024 1039 = false := by decide
  have q5 : inB 904 256 303 = false := by decide
  have q6 : inB 904 306 311 = false := by decide
  have q7 : inB 904 330 375 = false := by decide
  have q8 : inB 904 313 328 = false := by decide
  have q9 : inB 904 377 382 = false := by decide
  have q10 : inB 904 904 906 = true := by decide
  go_enter Tryd.func28, Tryd.ntmps28
  go_wp2_with (go_at_call 48; (with_reducible refine (in_any _ _ _ _).mono ?_); rintro e w' ⟨rfl, rfl⟩)
  go_ret
  exact ⟨rfl, rfl⟩
set_option maxHeartbeats 1000000 in
set_option maxRecDepth 100000 in
theorem lowR_905 (w : World) : Calls Tryd.prog 28 #[.int .i64 905] w fun e w' => e = .returned (.int .i64 942) ∧ w = w' := by
  have q0 : inB 905 65 90 = false := by decide
  have q1 : inB 905 192 222 = false := by decide
  have q2 : inB 905 913 939 = false := by decide
  have q3 : inB 905 1040 1071 = false := by decide
  have q4 : inB 905 1024 1039 = false := by decide
  have q5 : inB 905 256 303 = false := by decide
  have q6 : inB 905 306 311 = false := by decide
  have q7 : inB 905 330 375 = false := by decide
  have q8 : inB 905 313 328 = false := by decide
  have q9 : inB 905 377 382 = false := by decide
  have q10 : inB 905 904 906 = true := by decide
  go_enter Tryd.func28, Tryd.ntmps28
  go_wp2_with (go_at_call 48; (with_reducible refine (in_any _ _ _ _).mono ?_); rintro e w' ⟨rfl, rfl⟩)
  go_ret
  exact ⟨rfl, rfl⟩
set_option maxHeartbeats 1000000 in
set_option maxRecDepth 100000 in
theorem lowR_906 (w : World) : Calls Tryd.prog 28 #[.int .i64 906] w fun e w' => e = .returned (.int .i64 943) ∧ w = w' := by
  have q0 : inB 906 65 90 = false := by decide
  have q1 : inB 906 192 222 = false := by decide
  have q2 : inB 906 913 939 = false := by decide
  have q3 : inB 906 1040 1071 = false := by decide
  have q4 : inB 906 1024 1039 = false := by decide
  have q5 : inB 906 256 303 = false := by decide
  have q6 : inB 906 306 311 = false := by decide
  have q7 : inB 906 330 375 = false := by decide
  have q8 : inB 906 313 328 = false := by decide
  have q9 : inB 906 377 382 = false := by decide
  have q10 : inB 906 904 906 = true := by decide
  go_enter Tryd.func28, Tryd.ntmps28
  go_wp2_with (go_at_call 48; (with_reducible refine (in_any _ _ _ _).mono ?_); rintro e w' ⟨rfl, rfl⟩)
  go_ret
  exact ⟨rfl, rfl⟩
set_option maxHeartbeats 1000000 in
set_option maxRecDepth 100000 in
theorem lowR_908 (w : World) : Calls Tryd.prog 28 #[.int .i64 908] w fun e w' => e = .returned (.int .i64 972) ∧ w = w' := by
  have q0 : inB 908 65 90 = false := by decide
  have q1 : inB 908 192 222 = false := by decide
  have q2 : inB 908 913 939 = false := by decide
  have q3 : inB 908 1040 1071 = false := by decide
  have q4 : inB 908 1024 1039 = false := by decide
  have q5 : inB 908 256 303 = false := by decide
  have q6 : inB 908 306 311 = false := by decide
  have q7 : inB 908 330 375 = false := by decide
  have q8 : inB 908 313 328 = false := by decide
  have q9 : inB 908 377 382 = false := by decide
  have q10 : inB 908 904 906 = false := by decide
  go_enter Tryd.func28, Tryd.ntmps28
  go_wp2_with (go_at_call 48; (with_reducible refine (in_any _ _ _ _).mono ?_); rintro e w' ⟨rfl, rfl⟩)
  go_ret
  exact ⟨rfl, rfl⟩
set_option maxHeartbeats 1000000 in
set_option maxRecDepth 100000 in
theorem lowR_910 (w : World) : Calls Tryd.prog 28 #[.int .i64 910] w fun e w' => e = .returned (.int .i64 973) ∧ w = w' := by
  have q0 : inB 910 65 90 = false := by decide
  have q1 : inB 910 192 222 = false := by decide
  have q2 : inB 910 913 939 = false := by decide
  have q3 : inB 910 1040 1071 = false := by decide
  have q4 : inB 910 1024 1039 = false := by decide
  have q5 : inB 910 256 303 = false := by decide
  have q6 : inB 910 306 311 = false := by decide
  have q7 : inB 910 330 375 = false := by decide
  have q8 : inB 910 313 328 = false := by decide
  have q9 : inB 910 377 382 = false := by decide
  have q10 : inB 910 904 906 = false := by decide
  go_enter Tryd.func28, Tryd.ntmps28
  go_wp2_with (go_at_call 48; (with_reducible refine (in_any _ _ _ _).mono ?_); rintro e w' ⟨rfl, rfl⟩)
  go_ret
  exact ⟨rfl, rfl⟩
set_option maxHeartbeats 1000000 in
set_option maxRecDepth 100000 in
theorem lowR_911 (w : World) : Calls Tryd.prog 28 #[.int .i64 911] w fun e w' => e = .returned (.int .i64 974) ∧ w = w' := by
  have q0 : inB 911 65 90 = false := by decide
  have q1 : inB 911 192 222 = false := by decide
  have q2 : inB 911 913 939 = false := by decide
  have q3 : inB 911 1040 1071 = false := by decide
  have q4 : inB 911 1024 1039 = false := by decide
  have q5 : inB 911 256 303 = false := by decide
  have q6 : inB 911 306 311 = false := by decide
  have q7 : inB 911 330 375 = false := by decide
  have q8 : inB 911 313 328 = false := by decide
  have q9 : inB 911 377 382 = false := by decide
  have q10 : inB 911 904 906 = false := by decide
  go_enter Tryd.func28, Tryd.ntmps28
  go_wp2_with (go_at_call 48; (with_reducible refine (in_any _ _ _ _).mono ?_); rintro e w' ⟨rfl, rfl⟩)
  go_ret
  exact ⟨rfl, rfl⟩
set_option maxHeartbeats 1000000 in
set_option maxRecDepth 100000 in
theorem lowR_215 (w : World) : Calls Tryd.prog 28 #[.int .i64 215] w fun e w' => e = .returned (.int .i64 215) ∧ w = w' := by
  have q0 : inB 215 65 90 = false := by decide
  have q1 : inB 215 192 222 = true := by decide
  have q2 : inB 215 913 939 = false := by decide
  have q3 : inB 215 1040 1071 = false := by decide
  have q4 : inB 215 1024 1039 = false := by decide
  have q5 : inB 215 256 303 = false := by decide
  have q6 : inB 215 306 311 = false := by decide
  have q7 : inB 215 330 375 = false := by decide
  have q8 : inB 215 313 328 = false := by decide
  have q9 : inB 215 377 382 = false := by decide
  have q10 : inB 215 904 906 = false := by decide
  go_enter Tryd.func28, Tryd.ntmps28
  go_wp2_with (go_at_call 48; (with_reducible refine (in_any _ _ _ _).mono ?_); rintro e w' ⟨rfl, rfl⟩)
  go_ret
  exact ⟨rfl, rfl⟩
set_option maxHeartbeats 1000000 in
set_option maxRecDepth 100000 in
theorem lowR_930 (w : World) : Calls Tryd.prog 28 #[.int .i64 930] w fun e w' => e = .returned (.int .i64 930) ∧ w = w' := by
  have q0 : inB 930 65 90 = false := by decide
  have q1 : inB 930 192 222 = false := by decide
  have q2 : inB 930 913 939 = true := by decide
  have q3 : inB 930 1040 1071 = false := by decide
  have q4 : inB 930 1024 1039 = false := by decide
  have q5 : inB 930 256 303 = false := by decide
  have q6 : inB 930 306 311 = false := by decide
  have q7 : inB 930 330 375 = false := by decide
  have q8 : inB 930 313 328 = false := by decide
  have q9 : inB 930 377 382 = false := by decide
  have q10 : inB 930 904 906 = false := by decide
  go_enter Tryd.func28, Tryd.ntmps28
  go_wp2_with (go_at_call 48; (with_reducible refine (in_any _ _ _ _).mono ?_); rintro e w' ⟨rfl, rfl⟩)
  go_ret
  exact ⟨rfl, rfl⟩
def zcZ0 (r : Nat) : Bool := (r % 2 == 0) && (decide (r < 65) || decide (90 < r)) && (decide (r < 192) || decide (222 < r)) && (decide (r < 913) || decide (939 < r)) && (decide (r < 1040) || decide (1071 < r)) && (decide (r < 1024) || decide (1039 < r)) && (decide (r < 904) || decide (906 < r)) && (decide (r < 256) || decide (303 < r)) && (decide (r < 306) || decide (311 < r)) && (decide (r < 330) || decide (375 < r)) && (r != 376) && (r != 902) && (r != 908) && (r != 910) && (r != 911)
theorem lowV_Z0 : ∀ r : Nat, r < 2048 → zcZ0 r = true → lowI (r : Int) = (r : Int) := by decide +kernel
set_option maxHeartbeats 1000000 in
set_option maxRecDepth 100000 in
theorem lowR_Z0 (r : Nat) (w : World) (h : r < 2048) (hp : r % 2 = 0) (h0 : r < 65 ∨ 90 < r) (h1 : r < 192 ∨ 222 < r) (h2 : r < 913 ∨ 939 < r) (h3 : r < 1040 ∨ 1071 < r) (h4 : r < 1024 ∨ 1039 < r) (h5 : r < 904 ∨ 906 < r) (h6 : r < 256 ∨ 303 < r) (h7 : r < 306 ∨ 311 < r) (h8 : r < 330 ∨ 375 < r) (k376 : r ≠ 376) (k902 : r ≠ 902) (k908 : r ≠ 908) (k910 : r ≠ 910) (k911 : r ≠ 911) : Calls Tryd.prog 28 #[.int .i64 r] w fun e w' => e = .returned (.int .i64 (lowI r)) ∧ w = w' := by
  have hz : zcZ0 r = true := by
    unfold zcZ0
    simp only [Bool.and_eq_true, Bool.or_eq_true, decide_eq_true_eq, beq_iff_eq, bne_iff_ne]
    simp only [hp, h0, h1, h2, h3, h4, h5, h6, h7, h8, k376, k902, k908, k910, k911, ne_eq, not_false_eq_true, and_self]
  rw [lowV_Z0 r h hz]
  clear hz
  have q0 : inB (r : Int) 65 90 = false := inB_f (by omega)
  have q1 : inB (r : Int) 192 222 = false := inB_f (by omega)
  have q2 : inB (r : Int) 913 939 = false := inB_f (by omega)
  have q3 : inB (r : Int) 1040 1071 = false := inB_f (by omega)
  have q4 : inB (r : Int) 1024 1039 = false := inB_f (by omega)
  have q5 : inB (r : Int) 904 906 = false := inB_f (by omega)
  have q6 : inB (r : Int) 256 303 = false := inB_f (by omega)
  have q7 : inB (r : Int) 306 311 = false := inB_f (by omega)
  have q8 : inB (r : Int) 330 375 = false := inB_f (by omega)
  have e376 : ((r : Int) == 376) = false := beq_eq_false_iff_ne.2 (by omega)
  have e902 : ((r : Int) == 902) = false := beq_eq_false_iff_ne.2 (by omega)
  have e908 : ((r : Int) == 908) = false := beq_eq_false_iff_ne.2 (by omega)
  have e910 : ((r : Int) == 910) = false := beq_eq_false_iff_ne.2 (by omega)
  have e911 : ((r : Int) == 911) = false := beq_eq_false_iff_ne.2 (by omega)
  have hq : ((r : Int) % 2 == 0) = true := beq_iff_eq.2 (by omega)
  clear hp h0 h1 h2 h3 h4 h5 h6 h7 h8 k376 k902 k908 k910 k911
  go_enter Tryd.func28, Tryd.ntmps28
  go_wp2_with (go_at_call 48; (with_reducible refine (in_any _ _ _ _).mono ?_); rintro e w' ⟨rfl, rfl⟩)
  go_ret
  exact ⟨rfl, rfl⟩
def zcZ1 (r : Nat) : Bool := (r % 2 == 1) && (decide (r < 65) || decide (90 < r)) && (decide (r < 192) || decide (222 < r)) && (decide (r < 913) || decide (939 < r)) && (decide (r < 1040) || decide (1071 < r)) && (decide (r < 1024) || decide (1039 < r)) && (decide (r < 904) || decide (906 < r)) && (decide (r < 313) || decide (328 < r)) && (decide (r < 377) || decide (382 < r)) && (r != 376) && (r != 902) && (r != 908) && (r != 910) && (r != 911)
theorem lowV_Z1 : ∀ r : Nat, r < 2048 → zcZ1 r = true → lowI (r : Int) = (r : Int) := by decide +kernel
set_option maxHeartbeats 1000000 in
set_option maxRecDepth 100000 in
theorem lowR_Z1 (r : Nat) (w : World) (h : r < 2048) (hp : r % 2 = 1) (h0 : r < 65 ∨ 90 < r) (h1 : r < 192 ∨ 222 < r) (h2 : r < 913 ∨ 939 < r) (h3 : r < 1040 ∨ 1071 < r) (h4 : r < 1024 ∨ 1039 < r) (h5 : r < 904 ∨ 906 < r) (h6 : r < 313 ∨ 328 < r) (h7 : r < 377 ∨ 382 < r) (k376 : r ≠ 376) (k902 : r ≠ 902) (k908 : r ≠ 908) (k910 : r ≠ 910) (k911 : r ≠ 911) : Calls Tryd.prog 28 #[.int .i64 r] w fun e w' => e = .returned (.int .i64 (lowI r)) ∧ w = w' := by
  have hz : zcZ1 r = true := by
    unfold zcZ1
    simp only [Bool.and_eq_true, Bool.or_eq_true, decide_eq_true_eq, beq_iff_eq, bne_iff_ne]
    simp only [hp, h0, h1, h2, h3, h4, h5, h6, h7, k376, k902, k908, k910, k911, ne_eq, not_false_eq_true, and_self]
  rw [lowV_Z1 r h hz]
  clear hz
  have q0 : inB (r : Int) 65 90 = false := inB_f (by omega)
  have q1 : inB (r : Int) 192 222 = false := inB_f (by omega)
  have q2 : inB (r : Int) 913 939 = false := inB_f (by omega)
  have q3 : inB (r : Int) 1040 1071 = false := inB_f (by omega)
  have q4 : inB (r : Int) 1024 1039 = false := inB_f (by omega)
  have q5 : inB (r : Int) 904 906 = false := inB_f (by omega)
  have q6 : inB (r : Int) 313 328 = false := inB_f (by omega)
  have q7 : inB (r : Int) 377 382 = false := inB_f (by omega)
  have e376 : ((r : Int) == 376) = false := beq_eq_false_iff_ne.2 (by omega)
  have e902 : ((r : Int) == 902) = false := beq_eq_false_iff_ne.2 (by omega)
  have e908 : ((r : Int) == 908) = false := beq_eq_false_iff_ne.2 (by omega)
  have e910 : ((r : Int) == 910) = false := beq_eq_false_iff_ne.2 (by omega)
  have e911 : ((r : Int) == 911) = false := beq_eq_false_iff_ne.2 (by omega)
  have hq : ((r : Int) % 2 == 0) = false := beq_eq_false_iff_ne.2 (by omega)
  clear hp h0 h1 h2 h3 h4 h5 h6 h7 k376 k902 k908 k910 k911
  go_enter Tryd.func28, Tryd.ntmps28
  go_wp2_with (go_at_call 48; (with_reducible refine (in_any _ _ _ _).mono ?_); rintro e w' ⟨rfl, rfl⟩)
  go_ret
  exact ⟨rfl, rfl⟩
set_option maxHeartbeats 1000000 in
theorem lowR_any (r : Nat) (w : World) (h : r < 2048) : Calls Tryd.prog 28 #[.int .i64 r] w fun e w' => e = .returned (.int .i64 (lowI r)) ∧ w = w' := by
  by_cases y376 : r = 376
  · subst y376; exact lowR_376 w
  by_cases y902 : r = 902
  · subst y902; exact lowR_902 w
  by_cases y904 : r = 904
  · subst y904; exact lowR_904 w
  by_cases y905 : r = 905
  · subst y905; exact lowR_905 w
  by_cases y906 : r = 906
  · subst y906; exact lowR_906 w
  by_cases y908 : r = 908
  · subst y908; exact lowR_908 w
  by_cases y910 : r = 910
  · subst y910; exact lowR_910 w
  by_cases y911 : r = 911
  · subst y911; exact lowR_911 w
  by_cases y215 : r = 215
  · subst y215; exact lowR_215 w
  by_cases y930 : r = 930
  · subst y930; exact lowR_930 w
  by_cases cA : 65 ≤ r ∧ r ≤ 90
  · exact lowR_A r w cA.1 cA.2
  by_cases cB1 : 192 ≤ r ∧ r ≤ 214
  · exact lowR_B1 r w cB1.1 cB1.2
  by_cases cB2 : 216 ≤ r ∧ r ≤ 222
  · exact lowR_B2 r w cB2.1 cB2.2
  by_cases cC1 : 913 ≤ r ∧ r ≤ 929
  · exact lowR_C1 r w cC1.1 cC1.2
  by_cases cC2 : 931 ≤ r ∧ r ≤ 939
  · exact lowR_C2 r w cC2.1 cC2.2
  by_cases cD : 1040 ≤ r ∧ r ≤ 1071
  · exact lowR_D r w cD.1 cD.2
  by_cases cE : 1024 ≤ r ∧ r ≤ 1039
  · exact lowR_E r w cE.1 cE.2
  by_cases hp : r % 2 = 0
  · by_cases cF1 : 256 ≤ r ∧ r ≤ 303
    · exact lowR_F1 r w cF1.1 cF1.2 hp
    by_cases cF2 : 306 ≤ r ∧ r ≤ 311
    · exact lowR_F2 r w cF2.1 cF2.2 hp
    by_cases cF3 : 330 ≤ r ∧ r ≤ 375
    · exact lowR_F3 r w cF3.1 cF3.2 hp
    exact lowR_Z0 r w h hp (by omega) (by omega) (by omega) (by omega) (by omega) (by omega) (by omega) (by omega) (by omega) y376 y902 y908 y910 y911
  · by_cases cG1 : 313 ≤ r ∧ r ≤ 328
    · exact lowR_G1 r w cG1.1 cG1.2 (by omega)
    by_cases cG2 : 377 ≤ r ∧ r ≤ 382
    · exact lowR_G2 r w cG2.1 cG2.2 (by omega)
    exact lowR_Z1 r w h (by omega) (by omega) (by omega) (by omega) (by omega) (by omega) (by omega) (by omega) (by omega) y376 y902 y908 y910 y911
end Go.Proofs.YtlbnhkojfefccaaDoor
