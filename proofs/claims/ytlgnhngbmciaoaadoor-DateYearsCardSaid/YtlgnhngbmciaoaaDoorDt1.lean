/- Walks: dates: div, count, Civil, Days, Weekday, Right. -/
import Derived.Test.YtlgnhngbmciaoaaDoorDtS
import Derived.Test.YtlgnhngbmciaoaaDoorRows
namespace Go.Proofs.YtlgnhngbmciaoaaDoor
open Go.RowKit Pk Dt

theorem div_facts {n b : Int} (hb : 0 < b) : (n.tmod b < 0 → n / b = n.tdiv b - 1 ∧ n % b = n.tmod b + b) ∧ (¬ n.tmod b < 0 → n / b = n.tdiv b ∧ n % b = n.tmod b) := by
  have h1 : n.tmod b + b * n.tdiv b = n := by first | exact Int.tmod_add_mul_tdiv n b | (rw [Int.add_comm]; exact Int.mul_tdiv_add_tmod n b)
  have h2 := Int.tmod_lt_of_pos n hb
  have h3 := Int.lt_tmod_of_pos n hb
  refine ⟨fun h => ?_, fun h => ?_⟩
  · refine (Int.ediv_emod_unique hb).2 ⟨?_, by omega, by omega⟩
    rw [Int.mul_sub, Int.mul_one]; omega
  · exact (Int.ediv_emod_unique hb).2 ⟨h1, by omega, h2⟩
theorem td {x : Int} (h : 0 ≤ x) (n : Int) : x.tdiv n = x / n := Int.tdiv_eq_ediv_of_nonneg h
set_option maxRecDepth 100000 in
theorem div400_any (n : Int) (w : World) (h0 : -9000000000000000000 ≤ n) (h1 : n ≤ 9000000000000000000) : Calls Tryd.prog 28 #[.int .i64 n, .int .i64 400] w fun e w' => e = .returned (.tuple #[.int .i64 (n / 400), .int .i64 (n % 400)]) ∧ Below w.heap.size w w' := by
  obtain ⟨f1, f2⟩ := div_facts (n := n) (b := 400) (by decide)
  by_cases hr : n.tmod 400 < 0
  · obtain ⟨e1, e2⟩ := f1 hr
    have t1 : n.tdiv 400 = n / 400 + 1 := by omega
    have t2 : n.tmod 400 = n % 400 - 400 := by omega
    have q1 : decide (n % 400 - 400 < 0) = true := decide_eq_true (by omega)
    have b1 : 0 ≤ n % 400 ∧ n % 400 < 400 := by omega
    clear f1 f2 hr e1 e2
    go_enter Tryd.func28, Tryd.ntmps28
    go_wp2
    go_region
    go_wp2
    go_ret2
    refine ⟨?_, (Below.refl _ _).drew⟩
    congr 4 <;> omega
  · obtain ⟨e1, e2⟩ := f2 hr
    have t1 : n.tdiv 400 = n / 400 := by omega
    have t2 : n.tmod 400 = n % 400 := by omega
    have q1 : decide (n % 400 < 0) = false := decide_eq_false (by omega)
    have b1 : 0 ≤ n % 400 ∧ n % 400 < 400 := by omega
    clear f1 f2 hr e1 e2
    go_enter Tryd.func28, Tryd.ntmps28
    go_wp2
    go_region
    go_wp2
    go_ret2
    exact ⟨rfl, (Below.refl _ _).drew⟩
set_option maxRecDepth 100000 in
theorem div146097_any (n : Int) (w : World) (h0 : -9000000000000000000 ≤ n) (h1 : n ≤ 9000000000000000000) : Calls Tryd.prog 28 #[.int .i64 n, .int .i64 146097] w fun e w' => e = .returned (.tuple #[.int .i64 (n / 146097), .int .i64 (n % 146097)]) ∧ Below w.heap.size w w' := by
  obtain ⟨f1, f2⟩ := div_facts (n := n) (b := 146097) (by decide)
  by_cases hr : n.tmod 146097 < 0
  · obtain ⟨e1, e2⟩ := f1 hr
    have t1 : n.tdiv 146097 = n / 146097 + 1 := by omega
    have t2 : n.tmod 146097 = n % 146097 - 146097 := by omega
    have q1 : decide (n % 146097 - 146097 < 0) = true := decide_eq_true (by omega)
    have b1 : 0 ≤ n % 146097 ∧ n % 146097 < 146097 := by omega
    clear f1 f2 hr e1 e2
    go_enter Tryd.func28, Tryd.ntmps28
    go_wp2
    go_region
    go_wp2
    go_ret2
    refine ⟨?_, (Below.refl _ _).drew⟩
    congr 4 <;> omega
  · obtain ⟨e1, e2⟩ := f2 hr
    have t1 : n.tdiv 146097 = n / 146097 := by omega
    have t2 : n.tmod 146097 = n % 146097 := by omega
    have q1 : decide (n % 146097 < 0) = false := decide_eq_false (by omega)
    have b1 : 0 ≤ n % 146097 ∧ n % 146097 < 146097 := by omega
    clear f1 f2 hr e1 e2
    go_enter Tryd.func28, Tryd.ntmps28
    go_wp2
    go_region
    go_wp2
    go_ret2
    exact ⟨rfl, (Below.refl _ _).drew⟩
set_option maxRecDepth 100000 in
theorem div7_any (n : Int) (w : World) (h0 : -9000000000000000000 ≤ n) (h1 : n ≤ 9000000000000000000) : Calls Tryd.prog 28 #[.int .i64 n, .int .i64 7] w fun e w' => e = .returned (.tuple #[.int .i64 (n / 7), .int .i64 (n % 7)]) ∧ Below w.heap.size w w' := by
  obtain ⟨f1, f2⟩ := div_facts (n := n) (b := 7) (by decide)
  by_cases hr : n.tmod 7 < 0
  · obtain ⟨e1, e2⟩ := f1 hr
    have t1 : n.tdiv 7 = n / 7 + 1 := by omega
    have t2 : n.tmod 7 = n % 7 - 7 := by omega
    have q1 : decide (n % 7 - 7 < 0) = true := decide_eq_true (by omega)
    have b1 : 0 ≤ n % 7 ∧ n % 7 < 7 := by omega
    clear f1 f2 hr e1 e2
    go_enter Tryd.func28, Tryd.ntmps28
    go_wp2
    go_region
    go_wp2
    go_ret2
    refine ⟨?_, (Below.refl _ _).drew⟩
    congr 4 <;> omega
  · obtain ⟨e1, e2⟩ := f2 hr
    have t1 : n.tdiv 7 = n / 7 := by omega
    have t2 : n.tmod 7 = n % 7 := by omega
    have q1 : decide (n % 7 < 0) = false := decide_eq_false (by omega)
    have b1 : 0 ≤ n % 7 ∧ n % 7 < 7 := by omega
    clear f1 f2 hr e1 e2
    go_enter Tryd.func28, Tryd.ntmps28
    go_wp2
    go_region
    go_wp2
    go_ret2
    exact ⟨rfl, (Below.refl _ _).drew⟩
set_option maxRecDepth 100000 in
theorem div86400_any (n : Int) (w : World) (h0 : -9000000000000000000 ≤ n) (h1 : n ≤ 9000000000000000000) : Calls Tryd.prog 28 #[.int .i64 n, .int .i64 86400] w fun e w' => e = .returned (.tuple #[.int .i64 (n / 86400), .int .i64 (n % 86400)]) ∧ Below w.heap.size w w' := by
  obtain ⟨f1, f2⟩ := div_facts (n := n) (b := 86400) (by decide)
  by_cases hr : n.tmod 86400 < 0
  · obtain ⟨e1, e2⟩ := f1 hr
    have t1 : n.tdiv 86400 = n / 86400 + 1 := by omega
    have t2 : n.tmod 86400 = n % 86400 - 86400 := by omega
    have q1 : decide (n % 86400 - 86400 < 0) = true := decide_eq_true (by omega)
    have b1 : 0 ≤ n % 86400 ∧ n % 86400 < 86400 := by omega
    clear f1 f2 hr e1 e2
    go_enter Tryd.func28, Tryd.ntmps28
    go_wp2
    go_region
    go_wp2
    go_ret2
    refine ⟨?_, (Below.refl _ _).drew⟩
    congr 4 <;> omega
  · obtain ⟨e1, e2⟩ := f2 hr
    have t1 : n.tdiv 86400 = n / 86400 := by omega
    have t2 : n.tmod 86400 = n % 86400 := by omega
    have q1 : decide (n % 86400 < 0) = false := decide_eq_false (by omega)
    have b1 : 0 ≤ n % 86400 ∧ n % 86400 < 86400 := by omega
    clear f1 f2 hr e1 e2
    go_enter Tryd.func28, Tryd.ntmps28
    go_wp2
    go_region
    go_wp2
    go_ret2
    exact ⟨rfl, (Below.refl _ _).drew⟩
set_option maxHeartbeats 1000000 in
set_option maxRecDepth 100000 in
theorem count_any (y m d : Int) (w : World) (h0 : 1 ≤ y) (h1 : y ≤ 9999) (h2 : 1 ≤ m) (h3 : m ≤ 12) (h4 : 1 ≤ d) (h5 : d ≤ 31) :
    Calls Tryd.prog 29 #[.int .i64 y, .int .i64 m, .int .i64 d] w fun e w' => e = .returned (.int .i64 (cntL y m d)) ∧ Below w.heap.size w w' := by
  by_cases hm : m < 3
  · have p1 : decide (m < 3) = true := decide_eq_true hm
    have hD := fun w => div400_any (y - 1) w (by omega) (by omega)
    have HD := Lib.hid hD
    have g0 : 0 ≤ (y - 1) % 400 ∧ (y - 1) % 400 < 400 := by omega
    have g1 : 0 ≤ (y - 1) / 400 ∧ (y - 1) / 400 ≤ 25 := by omega
    have hm0 : 0 ≤ (m + 9) % 12 ∧ (m + 9) % 12 ≤ 11 := by omega
    have t1 : (m + 9).tmod 12 = (m + 9) % 12 := Int.tmod_eq_emod_of_nonneg (by omega)
    obtain ⟨k, hk⟩ : ∃ k, k = (m + 9) % 12 := ⟨_, rfl⟩
    rw [← hk] at hm0 t1
    obtain ⟨q, hq⟩ : ∃ q, q = (y - 1) % 400 := ⟨_, rfl⟩
    obtain ⟨c, hc⟩ : ∃ c, c = (y - 1) / 400 := ⟨_, rfl⟩
    rw [← hq] at g0 HD
    rw [← hc] at g1 HD
    have t2 : (153 * k + 2).tdiv 5 = (153 * k + 2) / 5 := td (by omega) 5
    have t3 : q.tdiv 4 = q / 4 := td g0.1 4
    have t4 : q.tdiv 100 = q / 100 := td g0.1 100
    have tb := Below.refl w.heap.size w
    clear hD
    go_enter Tryd.func29, Tryd.ntmps29
    go_wp2_with (go_at_call 28; (with_reducible refine (HD.out _).mono ?_); rintro e w1 ⟨rfl, hb1⟩; have tb := tb.trans (hb1.mono tb.size))
    go_ret
    refine ⟨?_, tb⟩
    unfold cntL
    rw [if_pos (by omega), ← hk, ← hq, ← hc]
    first | rfl | (congr 2; done) | (congr 2; omega)
  · have p1 : decide (m < 3) = false := decide_eq_false hm
    have hD := fun w => div400_any (y) w (by omega) (by omega)
    have HD := Lib.hid hD
    have g0 : 0 ≤ (y) % 400 ∧ (y) % 400 < 400 := by omega
    have g1 : 0 ≤ (y) / 400 ∧ (y) / 400 ≤ 25 := by omega
    have hm0 : 0 ≤ (m + 9) % 12 ∧ (m + 9) % 12 ≤ 11 := by omega
    have t1 : (m + 9).tmod 12 = (m + 9) % 12 := Int.tmod_eq_emod_of_nonneg (by omega)
    obtain ⟨k, hk⟩ : ∃ k, k = (m + 9) % 12 := ⟨_, rfl⟩
    rw [← hk] at hm0 t1
    obtain ⟨q, hq⟩ : ∃ q, q = (y) % 400 := ⟨_, rfl⟩
    obtain ⟨c, hc⟩ : ∃ c, c = (y) / 400 := ⟨_, rfl⟩
    rw [← hq] at g0 HD
    rw [← hc] at g1 HD
    have t2 : (153 * k + 2).tdiv 5 = (153 * k + 2) / 5 := td (by omega) 5
    have t3 : q.tdiv 4 = q / 4 := td g0.1 4
    have t4 : q.tdiv 100 = q / 100 := td g0.1 100
    have tb := Below.refl w.heap.size w
    clear hD
    go_enter Tryd.func29, Tryd.ntmps29
    go_wp2_with (go_at_call 28; (with_reducible refine (HD.out _).mono ?_); rintro e w1 ⟨rfl, hb1⟩; have tb := tb.trans (hb1.mono tb.size))
    go_ret
    refine ⟨?_, tb⟩
    unfold cntL
    rw [if_neg (by omega), ← hk, ← hq, ← hc]
    first | rfl | (congr 2; done) | (congr 2; omega)
set_option maxHeartbeats 2000000 in
set_option maxRecDepth 100000 in
theorem civil_any (n : Int) (w : World) :
    Calls Tryd.prog 12 #[.int .i64 n] w fun e w' => e = .returned (.tuple #[.int .i64 (civL n).y, .int .i64 (civL n).m, .int .i64 (civL n).d]) ∧ Below w.heap.size w w' := by
  by_cases h0 : n < -719162
  · have p1 : decide (n < -719162) = true := decide_eq_true h0
    rw [civL_out (by omega)]
    go_enter Tryd.func12, Tryd.ntmps12
    go_wp2
    exact bodyPost_ret (v := .tuple #[.int .i64 0, .int .i64 0, .int .i64 0]) (by simp [results, Tryd.results12, go_sem]) rfl ⟨rfl, Below.refl _ _⟩
  · have p1 : decide (n < -719162) = false := decide_eq_false h0
    by_cases h1 : 2932896 < n
    · have p2 : decide (2932896 < n) = true := decide_eq_true h1
      rw [civL_out (by omega)]
      go_enter Tryd.func12, Tryd.ntmps12
      go_wp2
      exact bodyPost_ret (v := .tuple #[.int .i64 0, .int .i64 0, .int .i64 0]) (by simp [results, Tryd.results12, go_sem]) rfl ⟨rfl, Below.refl _ _⟩
    · have p2 : decide (2932896 < n) = false := decide_eq_false h1
      have hD := fun w => div146097_any (n + 719468) w (by omega) (by omega)
      rw [civL_in ⟨by omega, by omega⟩]
      have g0 : 0 ≤ (n + 719468) % 146097 ∧ (n + 719468) % 146097 < 146097 := by omega
      have g1 : 0 ≤ (n + 719468) / 146097 ∧ (n + 719468) / 146097 ≤ 25 := by omega
      obtain ⟨a1, a2, a3, a4, a5, -⟩ := parts _ g0.1 g0.2
      unfold civO
      simp only
      have hy : yr ((n + 719468) % 146097) = ((n + 719468) % 146097 - (n + 719468) % 146097 / 1460 + (n + 719468) % 146097 / 36524 - (n + 719468) % 146097 / 146096) / 365 := rfl
      have hi : insO ((n + 719468) % 146097) = (n + 719468) % 146097 - (365 * yr ((n + 719468) % 146097) + yr ((n + 719468) % 146097) / 4 - yr ((n + 719468) % 146097) / 100) := rfl
      generalize yr ((n + 719468) % 146097) = y at *
      generalize insO ((n + 719468) % 146097) = i at *
      generalize (n + 719468) % 146097 = o at *
      generalize (n + 719468) / 146097 = c at *
      have t1 : o.tdiv 1460 = o / 1460 := td g0.1 _
      have t2 : o.tdiv 36524 = o / 36524 := td g0.1 _
      have t3 : o.tdiv 146096 = o / 146096 := td g0.1 _
      have t4 : (o - o / 1460 + o / 36524 - o / 146096).tdiv 365 = y := by rw [td (by omega), hy]
      have t5 : y.tdiv 4 = y / 4 := td a1 _
      have t6 : y.tdiv 100 = y / 100 := td a1 _
      have t7 : o - (365 * y + y / 4 - y / 100) = i := hi.symm
      obtain ⟨k, hk⟩ : ∃ k, k = (5 * i + 2) / 153 := ⟨_, rfl⟩
      rw [← hk]
      have t8 : (5 * i + 2).tdiv 153 = k := by rw [td (by omega), hk]
      have hk0 : 0 ≤ k ∧ k ≤ 11 := by omega
      have t9 : (k + 2).tmod 12 = (k + 2) % 12 := Int.tmod_eq_emod_of_nonneg (by omega)
      have t10 : (153 * k + 2).tdiv 5 = (153 * k + 2) / 5 := td (by omega) _
      have hm0 : 0 ≤ (k + 2) % 12 ∧ (k + 2) % 12 ≤ 11 := by omega
      have HD := Lib.hid hD
      clear hD hy hi hk a5
      generalize (k + 2) % 12 = mm at *
      by_cases hm : mm + 1 < 3
      · have p3 : decide (mm + 1 < 3) = true := decide_eq_true hm
        rw [if_pos hm]
        have tb := Below.refl w.heap.size w
        go_enter Tryd.func12, Tryd.ntmps12
        go_wp2_with (go_at_call 28; (with_reducible refine (HD.out _).mono ?_); rintro e w1 ⟨rfl, hb1⟩; have tb := tb.trans (hb1.mono tb.size))
        exact bodyPost_ret (v := .tuple #[.int .i64 (c * 400 + y + 1), .int .i64 (mm + 1), .int .i64 (i - (153 * k + 2) / 5 + 1)]) (by simp [results, Tryd.results12, go_sem]) rfl ⟨rfl, tb⟩
      · have p3 : decide (mm + 1 < 3) = false := decide_eq_false hm
        rw [if_neg hm]
        have tb := Below.refl w.heap.size w
        go_enter Tryd.func12, Tryd.ntmps12
        go_wp2_with (go_at_call 28; (with_reducible refine (HD.out _).mono ?_); rintro e w1 ⟨rfl, hb1⟩; have tb := tb.trans (hb1.mono tb.size))
        exact bodyPost_ret (v := .tuple #[.int .i64 (c * 400 + y), .int .i64 (mm + 1), .int .i64 (i - (153 * k + 2) / 5 + 1)]) (by simp [results, Tryd.results12, go_sem]) rfl ⟨rfl, tb⟩
set_option maxHeartbeats 2000000 in
set_option maxRecDepth 100000 in
theorem days_any (y m d : Int) (w : World) :
    Calls Tryd.prog 13 #[.int .i64 y, .int .i64 m, .int .i64 d] w fun e w' => e = .returned (.int .i64 (daysL y m d)) ∧ Below w.heap.size w w' := by
  have tb := Below.refl w.heap.size w
  by_cases hout : y < 1 ∨ 9999 < y ∨ m < 1 ∨ 12 < m ∨ d < 1 ∨ 31 < d
  · have hd : daysL y m d = 0 := by unfold daysL; rw [if_pos hout]
    rw [hd]
    clear hd
    by_cases h1 : y < 1
    · have q1 : decide (y < 1) = true := decide_eq_true h1
      go_enter Tryd.func13, Tryd.ntmps13
      go_wp2
      go_ret
      exact ⟨rfl, Below.refl _ _⟩
    · have q1 : decide (y < 1) = false := decide_eq_false h1
      by_cases h2 : 9999 < y
      · have q2 : decide (9999 < y) = true := decide_eq_true h2
        go_enter Tryd.func13, Tryd.ntmps13
        go_wp2
        go_ret
        exact ⟨rfl, Below.refl _ _⟩
      · have q2 : decide (9999 < y) = false := decide_eq_false h2
        by_cases h3 : m < 1
        · have q3 : decide (m < 1) = true := decide_eq_true h3
          go_enter Tryd.func13, Tryd.ntmps13
          go_wp2
          go_ret
          exact ⟨rfl, Below.refl _ _⟩
        · have q3 : decide (m < 1) = false := decide_eq_false h3
          by_cases h4 : 12 < m
          · have q4 : decide (12 < m) = true := decide_eq_true h4
            go_enter Tryd.func13, Tryd.ntmps13
            go_wp2
            go_ret
            exact ⟨rfl, Below.refl _ _⟩
          · have q4 : decide (12 < m) = false := decide_eq_false h4
            by_cases h5 : d < 1
            · have q5 : decide (d < 1) = true := decide_eq_true h5
              go_enter Tryd.func13, Tryd.ntmps13
              go_wp2
              go_ret
              exact ⟨rfl, Below.refl _ _⟩
            · have q5 : decide (d < 1) = false := decide_eq_false h5
              have q6 : decide (31 < d) = true := decide_eq_true (by omega)
              go_enter Tryd.func13, Tryd.ntmps13
              go_wp2
              go_ret
              exact ⟨rfl, Below.refl _ _⟩
  · have q1 : decide (y < 1) = false := decide_eq_false (by omega)
    have q2 : decide (9999 < y) = false := decide_eq_false (by omega)
    have q3 : decide (m < 1) = false := decide_eq_false (by omega)
    have q4 : decide (12 < m) = false := decide_eq_false (by omega)
    have q5 : decide (d < 1) = false := decide_eq_false (by omega)
    have q6 : decide (31 < d) = false := decide_eq_false (by omega)
    have hd : daysL y m d = if civL (cntL y m d) = ⟨y, m, d⟩ then cntL y m d else 0 := by unfold daysL; rw [if_neg hout]
    have HC := Lib.hid (fun w => count_any y m d w (by omega) (by omega) (by omega) (by omega) (by omega) (by omega))
    rw [hd]
    generalize cntL y m d = n at *
    have hV := fun w => civil_any n w
    generalize civL n = x at *
    obtain ⟨a, b, c⟩ := x
    simp only at hV
    have HV := Lib.hid hV
    clear hout hd hV
    by_cases ha : a = y
    · have z1 : (a == y) = true := beq_iff_eq.2 ha
      by_cases hb : b = m
      · have z2 : (b == m) = true := beq_iff_eq.2 hb
        by_cases hc : c = d
        · subst ha hb hc
          rw [if_pos rfl]
          go_enter Tryd.func13, Tryd.ntmps13
          go_wp2_with (first
            | (go_at_call 29; (with_reducible refine (HC.out _).mono ?_); rintro e w1 ⟨rfl, hb1⟩; have tb := tb.trans (hb1.mono tb.size))
            | (go_at_call 12; (with_reducible refine (HV.out _).mono ?_); rintro e w1 ⟨rfl, hb1⟩; have tb := tb.trans (hb1.mono tb.size)))
          go_ret
          exact ⟨rfl, tb⟩
        · have z3 : (c == d) = false := beq_eq_false_iff_ne.2 hc
          rw [if_neg (fun e => hc (by injection e))]
          subst ha hb
          go_enter Tryd.func13, Tryd.ntmps13
          go_wp2_with (first
            | (go_at_call 29; (with_reducible refine (HC.out _).mono ?_); rintro e w1 ⟨rfl, hb1⟩; have tb := tb.trans (hb1.mono tb.size))
            | (go_at_call 12; (with_reducible refine (HV.out _).mono ?_); rintro e w1 ⟨rfl, hb1⟩; have tb := tb.trans (hb1.mono tb.size)))
          go_ret
          exact ⟨rfl, tb⟩
      · have z2 : (b == m) = false := beq_eq_false_iff_ne.2 hb
        rw [if_neg (fun e => hb (by injection e))]
        subst ha
        go_enter Tryd.func13, Tryd.ntmps13
        go_wp2_with (first
          | (go_at_call 29; (with_reducible refine (HC.out _).mono ?_); rintro e w1 ⟨rfl, hb1⟩; have tb := tb.trans (hb1.mono tb.size))
          | (go_at_call 12; (with_reducible refine (HV.out _).mono ?_); rintro e w1 ⟨rfl, hb1⟩; have tb := tb.trans (hb1.mono tb.size)))
        go_ret
        exact ⟨rfl, tb⟩
    · have z1 : (a == y) = false := beq_eq_false_iff_ne.2 ha
      rw [if_neg (fun e => ha (by injection e))]
      go_enter Tryd.func13, Tryd.ntmps13
      go_wp2_with (first
        | (go_at_call 29; (with_reducible refine (HC.out _).mono ?_); rintro e w1 ⟨rfl, hb1⟩; have tb := tb.trans (hb1.mono tb.size))
        | (go_at_call 12; (with_reducible refine (HV.out _).mono ?_); rintro e w1 ⟨rfl, hb1⟩; have tb := tb.trans (hb1.mono tb.size)))
      go_ret
      exact ⟨rfl, tb⟩
set_option maxRecDepth 100000 in
theorem div7_d (n : Int) (w : World) (h0 : -9000000000000000000 ≤ n) (h1 : n ≤ 9000000000000000000) : Calls Tryd.prog 28 #[.int .i64 n, .int .i64 7] w fun e w' => e = .returned (.tuple #[.int .i64 (n / 7), .int .i64 (n % 7)]) ∧ w' = w.drew := by
  obtain ⟨f1, f2⟩ := div_facts (n := n) (b := 7) (by decide)
  by_cases hr : n.tmod 7 < 0
  · obtain ⟨e1, e2⟩ := f1 hr
    have t1 : n.tdiv 7 = n / 7 + 1 := by omega
    have t2 : n.tmod 7 = n % 7 - 7 := by omega
    have q1 : decide (n % 7 - 7 < 0) = true := decide_eq_true (by omega)
    have b1 : 0 ≤ n % 7 ∧ n % 7 < 7 := by omega
    clear f1 f2 hr e1 e2
    go_enter Tryd.func28, Tryd.ntmps28
    go_wp2
    go_region
    go_wp2
    go_ret2
    refine ⟨?_, rfl⟩
    congr 4 <;> omega
  · obtain ⟨e1, e2⟩ := f2 hr
    have t1 : n.tdiv 7 = n / 7 := by omega
    have t2 : n.tmod 7 = n % 7 := by omega
    have q1 : decide (n % 7 < 0) = false := decide_eq_false (by omega)
    have b1 : 0 ≤ n % 7 ∧ n % 7 < 7 := by omega
    clear f1 f2 hr e1 e2
    go_enter Tryd.func28, Tryd.ntmps28
    go_wp2
    go_region
    go_wp2
    go_ret2
    exact ⟨rfl, rfl⟩
set_option maxRecDepth 100000 in
theorem week_d (n : Int) (w : World) (h0 : -9000000000000000000 ≤ n) (h1 : n ≤ 9000000000000000000) :
    Calls Tryd.prog 14 #[.int .i64 n] w fun e w' => e = .returned (.int .i64 (wkL n)) ∧ w' = w.drew := by
  have hD := fun w => div7_d n w h0 h1
  have hw : wkL n = (n % 7 + 4) % 7 := rfl
  rw [hw]
  have g0 : 0 ≤ n % 7 ∧ n % 7 < 7 := by omega
  generalize n % 7 = r at *
  generalize n / 7 = q at *
  have t1 : (r + 4).tmod 7 = (r + 4) % 7 := Int.tmod_eq_emod_of_nonneg (by omega)
  have HD := Lib.hid hD
  clear hD hw
  go_enter Tryd.func14, Tryd.ntmps14
  go_wp2_with (go_at_call 28; (with_reducible refine (HD.out _).mono ?_); rintro e w1 ⟨rfl, rfl⟩)
  go_ret
  exact ⟨rfl, rfl⟩
set_option maxRecDepth 100000 in
theorem week_any (n : Int) (w : World) (h0 : -9000000000000000000 ≤ n) (h1 : n ≤ 9000000000000000000) :
    Calls Tryd.prog 14 #[.int .i64 n] w fun e w' => e = .returned (.int .i64 (wkL n)) ∧ Below w.heap.size w w' := by
  have hD := fun w => div7_any n w h0 h1
  have hw : wkL n = (n % 7 + 4) % 7 := rfl
  rw [hw]
  have g0 : 0 ≤ n % 7 ∧ n % 7 < 7 := by omega
  generalize n % 7 = r at *
  generalize n / 7 = q at *
  have t1 : (r + 4).tmod 7 = (r + 4) % 7 := Int.tmod_eq_emod_of_nonneg (by omega)
  have HD := Lib.hid hD
  have tb := Below.refl w.heap.size w
  clear hD hw
  go_enter Tryd.func14, Tryd.ntmps14
  go_wp2_with (go_at_call 28; (with_reducible refine (HD.out _).mono ?_); rintro e w1 ⟨rfl, hb1⟩; have tb := tb.trans (hb1.mono tb.size))
  go_ret
  exact ⟨rfl, tb⟩
set_option maxRecDepth 100000 in
theorem right_any (u z : Int) (w : World) :
    Calls Tryd.prog 10 #[.agg #[.int .i64 u, .int .i64 z]] w fun e w' => e = .returned (.bool (rightL u z)) ∧ Below w.heap.size w w' := by
  unfold rightL
  cases q1 : decide (-62135596800 ≤ u) with
  | false =>
    go_enter Tryd.func10, Tryd.ntmps10
    go_wp2
    go_ret
    exact ⟨rfl, (Below.refl _ _).alloc (Nat.le_refl _) _⟩
  | true =>
    cases q2 : decide (u ≤ 253402300799) with
    | false =>
      go_enter Tryd.func10, Tryd.ntmps10
      go_wp2
      go_ret
      exact ⟨rfl, (Below.refl _ _).alloc (Nat.le_refl _) _⟩
    | true =>
      cases q3 : decide (-1439 ≤ z) with
      | false =>
        go_enter Tryd.func10, Tryd.ntmps10
        go_wp2
        go_ret
        exact ⟨rfl, (Below.refl _ _).alloc (Nat.le_refl _) _⟩
      | true =>
        cases q4 : decide (z ≤ 1439) with
        | false =>
          go_enter Tryd.func10, Tryd.ntmps10
          go_wp2
          go_ret
          exact ⟨rfl, (Below.refl _ _).alloc (Nat.le_refl _) _⟩
        | true =>
          go_enter Tryd.func10, Tryd.ntmps10
          go_wp2
          go_ret
          exact ⟨rfl, (Below.refl _ _).alloc (Nat.le_refl _) _⟩
end Go.Proofs.YtlgnhngbmciaoaaDoor
