/- Walks: lex: token. -/
import Derived.Test.YtgimgkjggaijoaaGreatDoorLxO
namespace Go.Proofs.YtgimgkjggaijoaaGreatDoor
open Go.RowKit Pk Lx

def TokV (k : Int) (t : ByteArray) (n : Int) (m : Int) : Value := .tuple #[.agg #[.int .i64 k, .string t, .int .i64 n, .int .i64 0], .int .i64 m]
def TokIs (o : Option (Tok × Nat)) (w : World) (e : Ending) (w' : World) : Prop :=
  (∃ k t n m, e = .returned (TokV k t n m) ∧ match o with | none => m = -1 | some p => k = (p.1.k : Nat) ∧ t = toB p.1.t ∧ n = (p.1.n : Nat) ∧ m = (p.2 : Nat)) ∧ Below w.heap.size w w'
theorem TokIs.none_ {o : Option (Tok × Nat)} {w w' : World} {k : Int} {t : ByteArray} {n : Int} (h : o = none) (hb : Below w.heap.size w w') : TokIs o w (.returned (TokV k t n (-1))) w' := by
  subst h; exact ⟨⟨k, t, n, -1, rfl, rfl⟩, hb⟩
theorem TokIs.some_ {o : Option (Tok × Nat)} {w w' : World} {k n m : Nat} {t : List UInt8} {T : ByteArray} {K N M : Int} (h : o = some (⟨k, t, n⟩, m)) (hK : K = (k : Int)) (hN : N = (n : Int)) (hM : M = (m : Int)) (hT : T = toB t) (hb : Below w.heap.size w w') : TokIs o w (.returned (TokV K T N M)) w' := by
  subst h; exact ⟨⟨K, T, N, M, rfl, hK, hT, hN, hM⟩, hb⟩
theorem four_at {w1 : World} {b : Nat} {x0 x1 x2 x3 : Value} {t : TypeId} (h : w1.heap[b]? = some (.cells #[x0, x1, x2, x3] t (0, 0))) :
    (w1.cell? ⟨b, 0, none⟩ = some x0 ∧ w1.cell? ⟨b, 1, none⟩ = some x1 ∧ w1.cell? ⟨b, 2, none⟩ = some x2 ∧ w1.cell? ⟨b, 3, none⟩ = some x3) ∧ (w1.frozen? ⟨b, 0, none⟩ = false ∧ w1.frozen? ⟨b, 1, none⟩ = false ∧ w1.frozen? ⟨b, 2, none⟩ = false ∧ w1.frozen? ⟨b, 3, none⟩ = false) :=
  ⟨⟨(Lib.cell_of_heap h 0).trans rfl, (Lib.cell_of_heap h 1).trans rfl, (Lib.cell_of_heap h 2).trans rfl, (Lib.cell_of_heap h 3).trans rfl⟩, by simp [World.frozen?, h], by simp [World.frozen?, h], by simp [World.frozen?, h], by simp [World.frozen?, h]⟩
theorem four_later {w0 w1 : World} {b : Nat} {x0 x1 x2 x3 : Value} {t : TypeId} (h : w0.heap[b]? = some (.cells #[x0, x1, x2, x3] t (0, 0))) (hb : Below w0.heap.size w0 w1) :
    (w1.cell? ⟨b, 0, none⟩ = some x0 ∧ w1.cell? ⟨b, 1, none⟩ = some x1 ∧ w1.cell? ⟨b, 2, none⟩ = some x2 ∧ w1.cell? ⟨b, 3, none⟩ = some x3) ∧ (w1.frozen? ⟨b, 0, none⟩ = false ∧ w1.frozen? ⟨b, 1, none⟩ = false ∧ w1.frozen? ⟨b, 2, none⟩ = false ∧ w1.frozen? ⟨b, 3, none⟩ = false) := four_at ((hb.block b (Array.getElem?_eq_some_iff.1 h).1).trans h)
theorem set4X {B b : Nat} {w w1 : World} (h : Below B w w1) (hb : B ≤ b) (x0 x1 x2 x3 : Value) : Below B w ((((w1.setCell ⟨b, 0, none⟩ x0).setCell ⟨b, 1, none⟩ x1).setCell ⟨b, 2, none⟩ x2).setCell ⟨b, 3, none⟩ x3) :=
  (((h.setCell (p := ⟨b, 0, none⟩) hb _).setCell (p := ⟨b, 1, none⟩) hb _).setCell (p := ⟨b, 2, none⟩) hb _).setCell (p := ⟨b, 3, none⟩) hb _
def zLex : Obj := .cells #[.int .i64 0, .string ⟨#[]⟩, .int .i64 0, .int .i64 0] 41
theorem mk_ix (c : UInt8) : decide (0 ≤ Lib.indexByte [91, 93, 40, 41, 123, 125, 44, 59] c) = isMk c := by
  have e : ∀ n : Nat, n < 256 → decide (0 ≤ Lib.indexByte [91, 93, 40, 41, 123, 125, 44, 59] (UInt8.ofNat n)) = isMk (UInt8.ofNat n) := by decide +kernel
  have := e c.toNat c.toNat_lt
  simpa using this
theorem ibMk (x : UInt8) (w : World) : Calls Tryz.prog 36 #[.string ⟨#[91, 93, 40, 41, 123, 125, 44, 59]⟩, .int .u8 x.toNat] w fun e w' => e = .returned (.int .i64 (Lib.indexByte [91, 93, 40, 41, 123, 125, 44, 59] x)) ∧ w = w' := ibX0 ⟨#[91, 93, 40, 41, 123, 125, 44, 59]⟩ x w
theorem ext_one (s : ByteArray) (h : 0 < s.size) : s.extract 0 1 = toB [s[0]] := by
  rw [ext_to, data_cons s h]; rfl
set_option maxHeartbeats 8000000 in
set_option maxRecDepth 100000 in
theorem token_any (s : ByteArray) (w : World) (hw : LW w) (hs : s.size ≤ 5000000) (h0 : 0 < s.size) : Calls Tryz.prog 19 #[.string s] w (TokIs (tokenL s.data.toList) w) := by
  have hI := fun w => ident_any s w (by omega)
  have hile := identL_le s.data.toList
  rw [dataL] at hile
  have hX0 : tokenL s.data.toList = if identL s.data.toList = 4 ∧ lowL (s.data.toList.take 4) = textW ∧ (s.data.toList.drop 4).head? = some 58 then (multiL (s.data.toList.drop 5)).map fun p => (⟨4, p.1, 0⟩, 5 + p.2)
    else if 0 < identL s.data.toList then some (⟨1, lowL (s.data.toList.take (identL s.data.toList)), 0⟩, identL s.data.toList)
    else if s[0] = 58 ∧ 0 < identL (tl s 1) then some (⟨2, lowL ((tl s 1).take (identL (tl s 1))), 0⟩, 1 + identL (tl s 1))
    else if isDig s[0] = true then (numL s.data.toList).map fun p => (⟨3, [], p.1⟩, p.2)
    else if s[0] = 34 then (quoL (tl s 1)).map fun p => (⟨4, p.1, 0⟩, 1 + p.2)
    else if isMk s[0] = true then some (⟨5, [s[0]], 0⟩, 1) else none := by
    unfold tokenL
    rw [data_cons s h0]
  generalize tokenL s.data.toList = X at *
  generalize hn : identL s.data.toList = n at *
  have HI := Lib.hid hI
  clear hI hn
  have hwA : Below w.heap.size w (w.alloc zLex) := (Below.refl _ w).alloc (Nat.le_refl _) _
  have hkA : (w.alloc zLex).heap[w.heap.size]? = some (.cells #[.int .i64 0, .string ⟨#[]⟩, .int .i64 0, .int .i64 0] 41 (0, 0)) := heap_alloc_new w _
  by_cases hn0 : 0 < n
  · have hlow := fun w => lowerX_any (s.extract 0 n) w (by rw [ext_size]; omega)
    have e2 : (s.extract 0 n).data.toList = s.data.toList.take n := by rw [Lib.extract_data, List.drop_zero, Nat.sub_zero]
    rw [e2] at hlow
    obtain ⟨T, hTe, hTd, -⟩ := arrE (lowL (s.data.toList.take n))
    have hT2 : toB (lowL (s.data.toList.take n)) = T := hTe.symm
    rw [hT2] at hlow
    have HT := Lib.hid hT2
    by_cases h4 : n = 4
    · subst h4
      have HL := Lib.hid hlow
      have hTx : (T.toList == [116, 101, 120, 116]) = decide (lowL (s.data.toList.take 4) = textW) := by
        rw [Lib.toList_data, hTd, Bool.eq_iff_iff, beq_iff_eq, decide_eq_true_iff]; rfl
      by_cases h5 : lowL (s.data.toList.take 4) = textW
      · rw [decide_eq_true h5] at hTx
        have hP := hp_one (s.extract 4 s.size) 58
        rw [ext_from] at hP
        by_cases h6 : (s.data.toList.drop 4).head? = some 58
        · rw [if_pos ⟨rfl, h5, h6⟩] at hX0
          rw [decide_eq_true h6] at hP
          have HP := Lib.hid hP
          have z5 := hd_lt h6
          rw [dataL] at z5
          have hM : ∀ w1, Below w.heap.size w w1 → Calls Tryz.prog 41 #[.string (s.extract 5 s.size)] w1 (PairIs (multiL (s.extract 5 s.size).data.toList) w1) := fun w1 hb => by
            obtain ⟨⟨m, hm⟩, -⟩ := hw.later hb
            exact multi_any (s.extract 5 s.size) w1 m hm (by rw [ext_size]; omega)
          rw [ext_from] at hM
          unfold PairIs at hM
          have z6 : (5 : Int) ≤ (s.size : Int) := by omega
          clear hlow e2 hTe hTd hT2 hP h5 h6 hn0 hile hw
          cases hml : multiL (s.data.toList.drop 5) with
          | none =>
            rw [hml] at hM hX0
            have HX := Lib.hid (show X = none from hX0)
            have HM := Lib.hid (show ∀ w1, Below w.heap.size w w1 → Calls Tryz.prog 41 #[.string (s.extract 5 s.size)] w1 fun e w' => e = .returned (.tuple #[.string ⟨#[]⟩, .int .i64 (-1)]) ∧ Below w1.heap.size w1 w' from hM)
            clear hM hX0 hml
            go_enter Tryz.func19, Tryz.ntmps19
            go_wp2_with fail
            generalize hw0 : w.alloc (.cells #[.int .i64 0, .string ⟨#[]⟩, .int .i64 0, .int .i64 0] 41) = w0 at *
            replace hwA : Below w.heap.size w w0 := by rw [← hw0]; exact hwA
            replace hkA : w0.heap[w.heap.size]? = some (.cells #[.int .i64 0, .string ⟨#[]⟩, .int .i64 0, .int .i64 0] 41 (0, 0)) := by rw [← hw0]; exact hkA
            clear hw0
            have tb : Below w0.heap.size w0 w0 := Below.refl _ _
            obtain ⟨⟨c0, c1, c2, c3⟩, f0, f1, f2, f3⟩ := four_later hkA tb
            go_wp2_with (first | (go_at_call 39; (with_reducible refine (HI.out _).mono ?_); rintro e w1 ⟨rfl, rfl⟩) | (go_at_call 39; (with_reducible refine (HI2.out _).mono ?_); rintro e w1 ⟨rfl, rfl⟩) | (go_at_call 40; ((with_reducible refine (HL.out _).mono ?_); rintro e w1 ⟨rfl, hb1⟩; have tb := tb.trans (hb1.mono tb.size); obtain ⟨⟨c0, c1, c2, c3⟩, f0, f1, f2, f3⟩ := four_later hkA tb)) | (go_at_call 37; (with_reducible refine (HP.out _).mono ?_); rintro e w1 ⟨rfl, rfl⟩) | (go_at_call 41; ((with_reducible refine (HM.out _ (hwA.trans (tb.mono hwA.size))).mono ?_); rintro e w1 ⟨rfl, hb1⟩; have tb := tb.trans (hb1.mono tb.size); obtain ⟨⟨c0, c1, c2, c3⟩, f0, f1, f2, f3⟩ := four_later hkA tb)) | (go_at_call 42; (with_reducible refine (HD.out _).mono ?_); rintro e w1 ⟨rfl, rfl⟩) | (go_at_call 43; ((with_reducible refine (HNu.out _ (hwA.trans (tb.mono hwA.size))).mono ?_); rintro e w1 ⟨rfl, hb1⟩; have tb := tb.trans (hb1.mono tb.size); obtain ⟨⟨c0, c1, c2, c3⟩, f0, f1, f2, f3⟩ := four_later hkA tb)) | (go_at_call 44; ((with_reducible refine (HQ.out _).mono ?_); rintro e w1 ⟨rfl, hb1⟩; have tb := tb.trans (hb1.mono tb.size); obtain ⟨⟨c0, c1, c2, c3⟩, f0, f1, f2, f3⟩ := four_later hkA tb)) | (go_at_call 36; (with_reducible refine (HMk.out _).mono ?_); rintro e w1 ⟨rfl, rfl⟩))
            refine bodyPost_ret (v := TokV 0 ⟨#[]⟩ 0 (-1)) (by simp [TokV, results, Tryz.results19, go_sem, *]) rfl ?_
            exact TokIs.none_ HX.out (set4X (hwA.trans (tb.mono hwA.size)) (Nat.le_refl _) _ _ _ _)
          | some p =>
            have hpl := (multi_pos (v := p.1) (n := p.2) hml).2
            rw [List.length_drop, dataL] at hpl
            rw [hml] at hM hX0
            obtain ⟨pv, pn⟩ := p
            have HX := Lib.hid (show X = some (⟨4, pv, 0⟩, 5 + pn) from hX0)
            obtain ⟨V, hVe, -, -⟩ := arrE pv
            have hV2 : toB pv = V := hVe.symm
            have hM : ∀ w1, Below w.heap.size w w1 → Calls Tryz.prog 41 #[.string (s.extract 5 s.size)] w1 fun e w' => e = .returned (.tuple #[.string (toB pv), .int .i64 (pn : Int)]) ∧ Below w1.heap.size w1 w' := hM
            rw [hV2] at hM
            have HM := Lib.hid hM
            have HT := Lib.hid hV2
            have hpl : pn ≤ 5000000 := by simp only at hpl; omega
            clear hM hX0 hml hVe hV2
            go_enter Tryz.func19, Tryz.ntmps19
            go_wp2_with fail
            generalize hw0 : w.alloc (.cells #[.int .i64 0, .string ⟨#[]⟩, .int .i64 0, .int .i64 0] 41) = w0 at *
            replace hwA : Below w.heap.size w w0 := by rw [← hw0]; exact hwA
            replace hkA : w0.heap[w.heap.size]? = some (.cells #[.int .i64 0, .string ⟨#[]⟩, .int .i64 0, .int .i64 0] 41 (0, 0)) := by rw [← hw0]; exact hkA
            clear hw0
            have tb : Below w0.heap.size w0 w0 := Below.refl _ _
            obtain ⟨⟨c0, c1, c2, c3⟩, f0, f1, f2, f3⟩ := four_later hkA tb
            go_wp2_with (first | (go_at_call 39; (with_reducible refine (HI.out _).mono ?_); rintro e w1 ⟨rfl, rfl⟩) | (go_at_call 39; (with_reducible refine (HI2.out _).mono ?_); rintro e w1 ⟨rfl, rfl⟩) | (go_at_call 40; ((with_reducible refine (HL.out _).mono ?_); rintro e w1 ⟨rfl, hb1⟩; have tb := tb.trans (hb1.mono tb.size); obtain ⟨⟨c0, c1, c2, c3⟩, f0, f1, f2, f3⟩ := four_later hkA tb)) | (go_at_call 37; (with_reducible refine (HP.out _).mono ?_); rintro e w1 ⟨rfl, rfl⟩) | (go_at_call 41; ((with_reducible refine (HM.out _ (hwA.trans (tb.mono hwA.size))).mono ?_); rintro e w1 ⟨rfl, hb1⟩; have tb := tb.trans (hb1.mono tb.size); obtain ⟨⟨c0, c1, c2, c3⟩, f0, f1, f2, f3⟩ := four_later hkA tb)) | (go_at_call 42; (with_reducible refine (HD.out _).mono ?_); rintro e w1 ⟨rfl, rfl⟩) | (go_at_call 43; ((with_reducible refine (HNu.out _ (hwA.trans (tb.mono hwA.size))).mono ?_); rintro e w1 ⟨rfl, hb1⟩; have tb := tb.trans (hb1.mono tb.size); obtain ⟨⟨c0, c1, c2, c3⟩, f0, f1, f2, f3⟩ := four_later hkA tb)) | (go_at_call 44; ((with_reducible refine (HQ.out _).mono ?_); rintro e w1 ⟨rfl, hb1⟩; have tb := tb.trans (hb1.mono tb.size); obtain ⟨⟨c0, c1, c2, c3⟩, f0, f1, f2, f3⟩ := four_later hkA tb)) | (go_at_call 36; (with_reducible refine (HMk.out _).mono ?_); rintro e w1 ⟨rfl, rfl⟩))
            refine bodyPost_ret (v := TokV 4 V 0 (5 + (pn : Int))) (by simp [TokV, results, Tryz.results19, go_sem, *]) rfl ?_
            exact TokIs.some_ HX.out rfl rfl (by first | rfl | omega) (by first | rfl | rw [HT.out] | exact HT.out.symm | exact HT.out) (set4X (hwA.trans (tb.mono hwA.size)) (Nat.le_refl _) _ _ _ _)
        · rw [if_neg (fun h => h6 h.2.2), if_pos hn0] at hX0
          rw [decide_eq_false h6] at hP
          have HP := Lib.hid hP
          have HX := Lib.hid hX0
          have z6 : (4 : Int) ≤ (s.size : Int) := by omega
          clear hlow e2 hTe hTd hT2 hP h5 h6 hn0 hw hX0
          go_enter Tryz.func19, Tryz.ntmps19
          go_wp2_with fail
          generalize hw0 : w.alloc (.cells #[.int .i64 0, .string ⟨#[]⟩, .int .i64 0, .int .i64 0] 41) = w0 at *
          replace hwA : Below w.heap.size w w0 := by rw [← hw0]; exact hwA
          replace hkA : w0.heap[w.heap.size]? = some (.cells #[.int .i64 0, .string ⟨#[]⟩, .int .i64 0, .int .i64 0] 41 (0, 0)) := by rw [← hw0]; exact hkA
          clear hw0
          have tb : Below w0.heap.size w0 w0 := Below.refl _ _
          obtain ⟨⟨c0, c1, c2, c3⟩, f0, f1, f2, f3⟩ := four_later hkA tb
          go_wp2_with (first | (go_at_call 39; (with_reducible refine (HI.out _).mono ?_); rintro e w1 ⟨rfl, rfl⟩) | (go_at_call 39; (with_reducible refine (HI2.out _).mono ?_); rintro e w1 ⟨rfl, rfl⟩) | (go_at_call 40; ((with_reducible refine (HL.out _).mono ?_); rintro e w1 ⟨rfl, hb1⟩; have tb := tb.trans (hb1.mono tb.size); obtain ⟨⟨c0, c1, c2, c3⟩, f0, f1, f2, f3⟩ := four_later hkA tb)) | (go_at_call 37; (with_reducible refine (HP.out _).mono ?_); rintro e w1 ⟨rfl, rfl⟩) | (go_at_call 41; ((with_reducible refine (HM.out _ (hwA.trans (tb.mono hwA.size))).mono ?_); rintro e w1 ⟨rfl, hb1⟩; have tb := tb.trans (hb1.mono tb.size); obtain ⟨⟨c0, c1, c2, c3⟩, f0, f1, f2, f3⟩ := four_later hkA tb)) | (go_at_call 42; (with_reducible refine (HD.out _).mono ?_); rintro e w1 ⟨rfl, rfl⟩) | (go_at_call 43; ((with_reducible refine (HNu.out _ (hwA.trans (tb.mono hwA.size))).mono ?_); rintro e w1 ⟨rfl, hb1⟩; have tb := tb.trans (hb1.mono tb.size); obtain ⟨⟨c0, c1, c2, c3⟩, f0, f1, f2, f3⟩ := four_later hkA tb)) | (go_at_call 44; ((with_reducible refine (HQ.out _).mono ?_); rintro e w1 ⟨rfl, hb1⟩; have tb := tb.trans (hb1.mono tb.size); obtain ⟨⟨c0, c1, c2, c3⟩, f0, f1, f2, f3⟩ := four_later hkA tb)) | (go_at_call 36; (with_reducible refine (HMk.out _).mono ?_); rintro e w1 ⟨rfl, rfl⟩))
          refine bodyPost_ret (v := TokV 1 T 0 (4)) (by simp [TokV, results, Tryz.results19, go_sem, *]) rfl ?_
          exact TokIs.some_ HX.out rfl rfl (by first | rfl | omega) (by first | rfl | rw [HT.out] | exact HT.out.symm | exact HT.out) (set4X (hwA.trans (tb.mono hwA.size)) (Nat.le_refl _) _ _ _ _)
      · rw [decide_eq_false h5] at hTx
        rw [if_neg (fun h => h5 h.2.1), if_pos hn0] at hX0
        have HX := Lib.hid hX0
        have z6 : (4 : Int) ≤ (s.size : Int) := by omega
        clear hlow e2 hTe hTd hT2 h5 hn0 hw hX0
        go_enter Tryz.func19, Tryz.ntmps19
        go_wp2_with fail
        generalize hw0 : w.alloc (.cells #[.int .i64 0, .string ⟨#[]⟩, .int .i64 0, .int .i64 0] 41) = w0 at *
        replace hwA : Below w.heap.size w w0 := by rw [← hw0]; exact hwA
        replace hkA : w0.heap[w.heap.size]? = some (.cells #[.int .i64 0, .string ⟨#[]⟩, .int .i64 0, .int .i64 0] 41 (0, 0)) := by rw [← hw0]; exact hkA
        clear hw0
        have tb : Below w0.heap.size w0 w0 := Below.refl _ _
        obtain ⟨⟨c0, c1, c2, c3⟩, f0, f1, f2, f3⟩ := four_later hkA tb
        go_wp2_with (first | (go_at_call 39; (with_reducible refine (HI.out _).mono ?_); rintro e w1 ⟨rfl, rfl⟩) | (go_at_call 39; (with_reducible refine (HI2.out _).mono ?_); rintro e w1 ⟨rfl, rfl⟩) | (go_at_call 40; ((with_reducible refine (HL.out _).mono ?_); rintro e w1 ⟨rfl, hb1⟩; have tb := tb.trans (hb1.mono tb.size); obtain ⟨⟨c0, c1, c2, c3⟩, f0, f1, f2, f3⟩ := four_later hkA tb)) | (go_at_call 37; (with_reducible refine (HP.out _).mono ?_); rintro e w1 ⟨rfl, rfl⟩) | (go_at_call 41; ((with_reducible refine (HM.out _ (hwA.trans (tb.mono hwA.size))).mono ?_); rintro e w1 ⟨rfl, hb1⟩; have tb := tb.trans (hb1.mono tb.size); obtain ⟨⟨c0, c1, c2, c3⟩, f0, f1, f2, f3⟩ := four_later hkA tb)) | (go_at_call 42; (with_reducible refine (HD.out _).mono ?_); rintro e w1 ⟨rfl, rfl⟩) | (go_at_call 43; ((with_reducible refine (HNu.out _ (hwA.trans (tb.mono hwA.size))).mono ?_); rintro e w1 ⟨rfl, hb1⟩; have tb := tb.trans (hb1.mono tb.size); obtain ⟨⟨c0, c1, c2, c3⟩, f0, f1, f2, f3⟩ := four_later hkA tb)) | (go_at_call 44; ((with_reducible refine (HQ.out _).mono ?_); rintro e w1 ⟨rfl, hb1⟩; have tb := tb.trans (hb1.mono tb.size); obtain ⟨⟨c0, c1, c2, c3⟩, f0, f1, f2, f3⟩ := four_later hkA tb)) | (go_at_call 36; (with_reducible refine (HMk.out _).mono ?_); rintro e w1 ⟨rfl, rfl⟩))
        refine bodyPost_ret (v := TokV 1 T 0 (4)) (by simp [TokV, results, Tryz.results19, go_sem, *]) rfl ?_
        exact TokIs.some_ HX.out rfl rfl (by first | rfl | omega) (by first | rfl | rw [HT.out] | exact HT.out.symm | exact HT.out) (set4X (hwA.trans (tb.mono hwA.size)) (Nat.le_refl _) _ _ _ _)
    · rw [if_neg (fun h => h4 h.1), if_pos hn0] at hX0
      have HX := Lib.hid hX0
      have HL := Lib.hid hlow
      have q4 : ((n : Int) == 4) = false := beq_eq_false_iff_ne.2 (by omega)
      have z6 : (n : Int) ≤ (s.size : Int) := by omega
      have z7 : (0 : Int) < (n : Int) := by omega
      clear hlow e2 hTe hTd hT2 h4 hw hX0
      go_enter Tryz.func19, Tryz.ntmps19
      go_wp2_with fail
      generalize hw0 : w.alloc (.cells #[.int .i64 0, .string ⟨#[]⟩, .int .i64 0, .int .i64 0] 41) = w0 at *
      replace hwA : Below w.heap.size w w0 := by rw [← hw0]; exact hwA
      replace hkA : w0.heap[w.heap.size]? = some (.cells #[.int .i64 0, .string ⟨#[]⟩, .int .i64 0, .int .i64 0] 41 (0, 0)) := by rw [← hw0]; exact hkA
      clear hw0
      have tb : Below w0.heap.size w0 w0 := Below.refl _ _
      obtain ⟨⟨c0, c1, c2, c3⟩, f0, f1, f2, f3⟩ := four_later hkA tb
      go_wp2_with (first | (go_at_call 39; (with_reducible refine (HI.out _).mono ?_); rintro e w1 ⟨rfl, rfl⟩) | (go_at_call 39; (with_reducible refine (HI2.out _).mono ?_); rintro e w1 ⟨rfl, rfl⟩) | (go_at_call 40; ((with_reducible refine (HL.out _).mono ?_); rintro e w1 ⟨rfl, hb1⟩; have tb := tb.trans (hb1.mono tb.size); obtain ⟨⟨c0, c1, c2, c3⟩, f0, f1, f2, f3⟩ := four_later hkA tb)) | (go_at_call 37; (with_reducible refine (HP.out _).mono ?_); rintro e w1 ⟨rfl, rfl⟩) | (go_at_call 41; ((with_reducible refine (HM.out _ (hwA.trans (tb.mono hwA.size))).mono ?_); rintro e w1 ⟨rfl, hb1⟩; have tb := tb.trans (hb1.mono tb.size); obtain ⟨⟨c0, c1, c2, c3⟩, f0, f1, f2, f3⟩ := four_later hkA tb)) | (go_at_call 42; (with_reducible refine (HD.out _).mono ?_); rintro e w1 ⟨rfl, rfl⟩) | (go_at_call 43; ((with_reducible refine (HNu.out _ (hwA.trans (tb.mono hwA.size))).mono ?_); rintro e w1 ⟨rfl, hb1⟩; have tb := tb.trans (hb1.mono tb.size); obtain ⟨⟨c0, c1, c2, c3⟩, f0, f1, f2, f3⟩ := four_later hkA tb)) | (go_at_call 44; ((with_reducible refine (HQ.out _).mono ?_); rintro e w1 ⟨rfl, hb1⟩; have tb := tb.trans (hb1.mono tb.size); obtain ⟨⟨c0, c1, c2, c3⟩, f0, f1, f2, f3⟩ := four_later hkA tb)) | (go_at_call 36; (with_reducible refine (HMk.out _).mono ?_); rintro e w1 ⟨rfl, rfl⟩))
      refine bodyPost_ret (v := TokV 1 T 0 ((n : Int))) (by simp [TokV, results, Tryz.results19, go_sem, *]) rfl ?_
      exact TokIs.some_ HX.out rfl rfl (by first | rfl | omega) (by first | rfl | rw [HT.out] | exact HT.out.symm | exact HT.out) (set4X (hwA.trans (tb.mono hwA.size)) (Nat.le_refl _) _ _ _ _)
  · rw [if_neg (by omega), if_neg hn0] at hX0
    obtain rfl : n = 0 := by omega
    by_cases h58 : s[0] = 58
    · have hi2 := fun w => ident_any (s.extract 1 s.size) w (by rw [ext_size]; omega)
      have e1 : (s.extract 1 s.size).data.toList = tl s 1 := ext_from s 1
      rw [e1] at hi2
      have q : ((s[0].toNat : Int) == 58) = true := (u8k 58 (by decide)).trans (decide_eq_true h58)
      by_cases hj0 : 0 < identL (tl s 1)
      · rw [if_pos ⟨h58, hj0⟩] at hX0
        have HX := Lib.hid hX0
        have hjl := identL_le (tl s 1)
        rw [tl_length] at hjl
        have hlow := fun w => lowerX_any (s.extract 1 (1 + identL (tl s 1))) w (by rw [ext_size]; omega)
        have e2 : (s.extract 1 (1 + identL (tl s 1))).data.toList = (tl s 1).take (identL (tl s 1)) := by rw [Lib.extract_data, Nat.add_sub_cancel_left]; rfl
        rw [e2] at hlow
        obtain ⟨T, hTe, hTd, -⟩ := arrE (lowL ((tl s 1).take (identL (tl s 1))))
        have hT2 : toB (lowL ((tl s 1).take (identL (tl s 1)))) = T := hTe.symm
        rw [hT2] at hlow
        have HT := Lib.hid hT2
        generalize identL (tl s 1) = j at *
        have HI2 := Lib.hid hi2
        have HL := Lib.hid hlow
        clear hX0 hi2 e1 h58 e2 hlow hTe hTd hT2 hile hn0 hw
        go_enter Tryz.func19, Tryz.ntmps19
        go_wp2_with fail
        generalize hw0 : w.alloc (.cells #[.int .i64 0, .string ⟨#[]⟩, .int .i64 0, .int .i64 0] 41) = w0 at *
        replace hwA : Below w.heap.size w w0 := by rw [← hw0]; exact hwA
        replace hkA : w0.heap[w.heap.size]? = some (.cells #[.int .i64 0, .string ⟨#[]⟩, .int .i64 0, .int .i64 0] 41 (0, 0)) := by rw [← hw0]; exact hkA
        clear hw0
        have tb : Below w0.heap.size w0 w0 := Below.refl _ _
        obtain ⟨⟨c0, c1, c2, c3⟩, f0, f1, f2, f3⟩ := four_later hkA tb
        go_wp2_with (first | (go_at_call 39; (with_reducible refine (HI.out _).mono ?_); rintro e w1 ⟨rfl, rfl⟩) | (go_at_call 39; (with_reducible refine (HI2.out _).mono ?_); rintro e w1 ⟨rfl, rfl⟩) | (go_at_call 40; ((with_reducible refine (HL.out _).mono ?_); rintro e w1 ⟨rfl, hb1⟩; have tb := tb.trans (hb1.mono tb.size); obtain ⟨⟨c0, c1, c2, c3⟩, f0, f1, f2, f3⟩ := four_later hkA tb)) | (go_at_call 37; (with_reducible refine (HP.out _).mono ?_); rintro e w1 ⟨rfl, rfl⟩) | (go_at_call 41; ((with_reducible refine (HM.out _ (hwA.trans (tb.mono hwA.size))).mono ?_); rintro e w1 ⟨rfl, hb1⟩; have tb := tb.trans (hb1.mono tb.size); obtain ⟨⟨c0, c1, c2, c3⟩, f0, f1, f2, f3⟩ := four_later hkA tb)) | (go_at_call 42; (with_reducible refine (HD.out _).mono ?_); rintro e w1 ⟨rfl, rfl⟩) | (go_at_call 43; ((with_reducible refine (HNu.out _ (hwA.trans (tb.mono hwA.size))).mono ?_); rintro e w1 ⟨rfl, hb1⟩; have tb := tb.trans (hb1.mono tb.size); obtain ⟨⟨c0, c1, c2, c3⟩, f0, f1, f2, f3⟩ := four_later hkA tb)) | (go_at_call 44; ((with_reducible refine (HQ.out _).mono ?_); rintro e w1 ⟨rfl, hb1⟩; have tb := tb.trans (hb1.mono tb.size); obtain ⟨⟨c0, c1, c2, c3⟩, f0, f1, f2, f3⟩ := four_later hkA tb)) | (go_at_call 36; (with_reducible refine (HMk.out _).mono ?_); rintro e w1 ⟨rfl, rfl⟩))
        refine bodyPost_ret (v := TokV 2 T 0 (1 + (j : Int))) (by simp [TokV, results, Tryz.results19, go_sem, *]) rfl ?_
        exact TokIs.some_ HX.out rfl rfl (by first | rfl | omega) (by first | rfl | rw [HT.out] | exact HT.out.symm | exact HT.out) (set4X (hwA.trans (tb.mono hwA.size)) (Nat.le_refl _) _ _ _ _)
      · rw [if_neg (fun h => hj0 h.2), h58, if_neg (by decide), if_neg (by decide), if_neg (by decide)] at hX0
        have HX := Lib.hid hX0
        have hj : identL (tl s 1) = 0 := by omega
        rw [hj] at hi2
        have HI2 := Lib.hid hi2
        have hD := digit_any s[0]
        have hdg : isDig s[0] = false := by rw [h58]; decide
        rw [hdg] at hD
        have HD := Lib.hid hD
        have q2 : ((s[0].toNat : Int) == 34) = false := (u8k 34 (by decide)).trans (decide_eq_false (by rw [h58]; decide))
        have hMk := ibMk s[0]
        have hix : Lib.indexByte [91, 93, 40, 41, 123, 125, 44, 59] s[0] = -1 := by rw [h58]; decide
        rw [hix] at hMk
        have HMk := Lib.hid hMk
        clear hX0 hi2 e1 h58 hD hdg hMk hix hile hn0 hw hj0 hj
        go_enter Tryz.func19, Tryz.ntmps19
        go_wp2_with fail
        generalize hw0 : w.alloc (.cells #[.int .i64 0, .string ⟨#[]⟩, .int .i64 0, .int .i64 0] 41) = w0 at *
        replace hwA : Below w.heap.size w w0 := by rw [← hw0]; exact hwA
        replace hkA : w0.heap[w.heap.size]? = some (.cells #[.int .i64 0, .string ⟨#[]⟩, .int .i64 0, .int .i64 0] 41 (0, 0)) := by rw [← hw0]; exact hkA
        clear hw0
        have tb : Below w0.heap.size w0 w0 := Below.refl _ _
        obtain ⟨⟨c0, c1, c2, c3⟩, f0, f1, f2, f3⟩ := four_later hkA tb
        go_wp2_with (first | (go_at_call 39; (with_reducible refine (HI.out _).mono ?_); rintro e w1 ⟨rfl, rfl⟩) | (go_at_call 39; (with_reducible refine (HI2.out _).mono ?_); rintro e w1 ⟨rfl, rfl⟩) | (go_at_call 40; ((with_reducible refine (HL.out _).mono ?_); rintro e w1 ⟨rfl, hb1⟩; have tb := tb.trans (hb1.mono tb.size); obtain ⟨⟨c0, c1, c2, c3⟩, f0, f1, f2, f3⟩ := four_later hkA tb)) | (go_at_call 37; (with_reducible refine (HP.out _).mono ?_); rintro e w1 ⟨rfl, rfl⟩) | (go_at_call 41; ((with_reducible refine (HM.out _ (hwA.trans (tb.mono hwA.size))).mono ?_); rintro e w1 ⟨rfl, hb1⟩; have tb := tb.trans (hb1.mono tb.size); obtain ⟨⟨c0, c1, c2, c3⟩, f0, f1, f2, f3⟩ := four_later hkA tb)) | (go_at_call 42; (with_reducible refine (HD.out _).mono ?_); rintro e w1 ⟨rfl, rfl⟩) | (go_at_call 43; ((with_reducible refine (HNu.out _ (hwA.trans (tb.mono hwA.size))).mono ?_); rintro e w1 ⟨rfl, hb1⟩; have tb := tb.trans (hb1.mono tb.size); obtain ⟨⟨c0, c1, c2, c3⟩, f0, f1, f2, f3⟩ := four_later hkA tb)) | (go_at_call 44; ((with_reducible refine (HQ.out _).mono ?_); rintro e w1 ⟨rfl, hb1⟩; have tb := tb.trans (hb1.mono tb.size); obtain ⟨⟨c0, c1, c2, c3⟩, f0, f1, f2, f3⟩ := four_later hkA tb)) | (go_at_call 36; (with_reducible refine (HMk.out _).mono ?_); rintro e w1 ⟨rfl, rfl⟩))
        refine bodyPost_ret (v := TokV 0 ⟨#[]⟩ 0 (-1)) (by simp [TokV, results, Tryz.results19, go_sem, *]) rfl ?_
        exact TokIs.none_ HX.out (set4X (hwA.trans (tb.mono hwA.size)) (Nat.le_refl _) _ _ _ _)
    · rw [if_neg (fun h => h58 h.1)] at hX0
      have q : ((s[0].toNat : Int) == 58) = false := (u8k 58 (by decide)).trans (decide_eq_false h58)
      have hD := digit_any s[0]
      clear h58
      by_cases hdg : isDig s[0] = true
      · rw [if_pos hdg] at hX0
        have hNu := fun w1 (hb : Below w.heap.size w w1) => number_any s w1 (hw.later hb) hs h0 hdg
        unfold NumIs at hNu
        rw [hdg] at hD
        have HD := Lib.hid hD
        clear hD hdg hile hn0 hw
        cases hml : numL s.data.toList with
        | none =>
          rw [hml] at hNu hX0
          have HX := Lib.hid (show X = none from hX0)
          have HNu := Lib.hid (show ∀ w1, Below w.heap.size w w1 → Calls Tryz.prog 43 #[.string s] w1 fun e w' => e = .returned (.tuple #[.int .i64 0, .int .i64 (-1)]) ∧ Below w1.heap.size w1 w' from hNu)
          clear hNu hX0 hml
          go_enter Tryz.func19, Tryz.ntmps19
          go_wp2_with fail
          generalize hw0 : w.alloc (.cells #[.int .i64 0, .string ⟨#[]⟩, .int .i64 0, .int .i64 0] 41) = w0 at *
          replace hwA : Below w.heap.size w w0 := by rw [← hw0]; exact hwA
          replace hkA : w0.heap[w.heap.size]? = some (.cells #[.int .i64 0, .string ⟨#[]⟩, .int .i64 0, .int .i64 0] 41 (0, 0)) := by rw [← hw0]; exact hkA
          clear hw0
          have tb : Below w0.heap.size w0 w0 := Below.refl _ _
          obtain ⟨⟨c0, c1, c2, c3⟩, f0, f1, f2, f3⟩ := four_later hkA tb
          go_wp2_with (first | (go_at_call 39; (with_reducible refine (HI.out _).mono ?_); rintro e w1 ⟨rfl, rfl⟩) | (go_at_call 39; (with_reducible refine (HI2.out _).mono ?_); rintro e w1 ⟨rfl, rfl⟩) | (go_at_call 40; ((with_reducible refine (HL.out _).mono ?_); rintro e w1 ⟨rfl, hb1⟩; have tb := tb.trans (hb1.mono tb.size); obtain ⟨⟨c0, c1, c2, c3⟩, f0, f1, f2, f3⟩ := four_later hkA tb)) | (go_at_call 37; (with_reducible refine (HP.out _).mono ?_); rintro e w1 ⟨rfl, rfl⟩) | (go_at_call 41; ((with_reducible refine (HM.out _ (hwA.trans (tb.mono hwA.size))).mono ?_); rintro e w1 ⟨rfl, hb1⟩; have tb := tb.trans (hb1.mono tb.size); obtain ⟨⟨c0, c1, c2, c3⟩, f0, f1, f2, f3⟩ := four_later hkA tb)) | (go_at_call 42; (with_reducible refine (HD.out _).mono ?_); rintro e w1 ⟨rfl, rfl⟩) | (go_at_call 43; ((with_reducible refine (HNu.out _ (hwA.trans (tb.mono hwA.size))).mono ?_); rintro e w1 ⟨rfl, hb1⟩; have tb := tb.trans (hb1.mono tb.size); obtain ⟨⟨c0, c1, c2, c3⟩, f0, f1, f2, f3⟩ := four_later hkA tb)) | (go_at_call 44; ((with_reducible refine (HQ.out _).mono ?_); rintro e w1 ⟨rfl, hb1⟩; have tb := tb.trans (hb1.mono tb.size); obtain ⟨⟨c0, c1, c2, c3⟩, f0, f1, f2, f3⟩ := four_later hkA tb)) | (go_at_call 36; (with_reducible refine (HMk.out _).mono ?_); rintro e w1 ⟨rfl, rfl⟩))
          refine bodyPost_ret (v := TokV 3 ⟨#[]⟩ 0 (-1)) (by simp [TokV, results, Tryz.results19, go_sem, *]) rfl ?_
          exact TokIs.none_ HX.out (set4X (hwA.trans (tb.mono hwA.size)) (Nat.le_refl _) _ _ _ _)
        | some p =>
          rw [hml] at hNu hX0
          obtain ⟨pv, pn⟩ := p
          have HX := Lib.hid (show X = some (⟨3, [], pv⟩, pn) from hX0)
          have HNu := Lib.hid (show ∀ w1, Below w.heap.size w w1 → Calls Tryz.prog 43 #[.string s] w1 fun e w' => e = .returned (.tuple #[.int .i64 (pv : Int), .int .i64 (pn : Int)]) ∧ Below w1.heap.size w1 w' from hNu)
          clear hNu hX0 hml
          go_enter Tryz.func19, Tryz.ntmps19
          go_wp2_with fail
          generalize hw0 : w.alloc (.cells #[.int .i64 0, .string ⟨#[]⟩, .int .i64 0, .int .i64 0] 41) = w0 at *
          replace hwA : Below w.heap.size w w0 := by rw [← hw0]; exact hwA
          replace hkA : w0.heap[w.heap.size]? = some (.cells #[.int .i64 0, .string ⟨#[]⟩, .int .i64 0, .int .i64 0] 41 (0, 0)) := by rw [← hw0]; exact hkA
          clear hw0
          have tb : Below w0.heap.size w0 w0 := Below.refl _ _
          obtain ⟨⟨c0, c1, c2, c3⟩, f0, f1, f2, f3⟩ := four_later hkA tb
          go_wp2_with (first | (go_at_call 39; (with_reducible refine (HI.out _).mono ?_); rintro e w1 ⟨rfl, rfl⟩) | (go_at_call 39; (with_reducible refine (HI2.out _).mono ?_); rintro e w1 ⟨rfl, rfl⟩) | (go_at_call 40; ((with_reducible refine (HL.out _).mono ?_); rintro e w1 ⟨rfl, hb1⟩; have tb := tb.trans (hb1.mono tb.size); obtain ⟨⟨c0, c1, c2, c3⟩, f0, f1, f2, f3⟩ := four_later hkA tb)) | (go_at_call 37; (with_reducible refine (HP.out _).mono ?_); rintro e w1 ⟨rfl, rfl⟩) | (go_at_call 41; ((with_reducible refine (HM.out _ (hwA.trans (tb.mono hwA.size))).mono ?_); rintro e w1 ⟨rfl, hb1⟩; have tb := tb.trans (hb1.mono tb.size); obtain ⟨⟨c0, c1, c2, c3⟩, f0, f1, f2, f3⟩ := four_later hkA tb)) | (go_at_call 42; (with_reducible refine (HD.out _).mono ?_); rintro e w1 ⟨rfl, rfl⟩) | (go_at_call 43; ((with_reducible refine (HNu.out _ (hwA.trans (tb.mono hwA.size))).mono ?_); rintro e w1 ⟨rfl, hb1⟩; have tb := tb.trans (hb1.mono tb.size); obtain ⟨⟨c0, c1, c2, c3⟩, f0, f1, f2, f3⟩ := four_later hkA tb)) | (go_at_call 44; ((with_reducible refine (HQ.out _).mono ?_); rintro e w1 ⟨rfl, hb1⟩; have tb := tb.trans (hb1.mono tb.size); obtain ⟨⟨c0, c1, c2, c3⟩, f0, f1, f2, f3⟩ := four_later hkA tb)) | (go_at_call 36; (with_reducible refine (HMk.out _).mono ?_); rintro e w1 ⟨rfl, rfl⟩))
          refine bodyPost_ret (v := TokV 3 ⟨#[]⟩ (pv : Int) ((pn : Int))) (by simp [TokV, results, Tryz.results19, go_sem, *]) rfl ?_
          exact TokIs.some_ HX.out rfl rfl (by first | rfl | omega) (by first | rfl | rw [HT.out] | exact HT.out.symm | exact HT.out) (set4X (hwA.trans (tb.mono hwA.size)) (Nat.le_refl _) _ _ _ _)
      · rw [if_neg hdg] at hX0
        have hdg : isDig s[0] = false := by simpa using hdg
        rw [hdg] at hD
        have HD := Lib.hid hD
        clear hD hdg
        by_cases h34 : s[0] = 34
        · rw [if_pos h34] at hX0
          have q2 : ((s[0].toNat : Int) == 34) = true := (u8k 34 (by decide)).trans (decide_eq_true h34)
          have hQ := fun w1 => quoted_any s w1 (by omega) h0
          unfold PairIs at hQ
          clear h34 hile hn0 hw
          cases hml : quoL (tl s 1) with
          | none =>
            rw [hml] at hQ hX0
            have HX := Lib.hid (show X = none from hX0)
            have HQ := Lib.hid (show ∀ w1, Calls Tryz.prog 44 #[.string s] w1 fun e w' => e = .returned (.tuple #[.string ⟨#[]⟩, .int .i64 (-1)]) ∧ Below w1.heap.size w1 w' from hQ)
            clear hQ hX0 hml
            go_enter Tryz.func19, Tryz.ntmps19
            go_wp2_with fail
            generalize hw0 : w.alloc (.cells #[.int .i64 0, .string ⟨#[]⟩, .int .i64 0, .int .i64 0] 41) = w0 at *
            replace hwA : Below w.heap.size w w0 := by rw [← hw0]; exact hwA
            replace hkA : w0.heap[w.heap.size]? = some (.cells #[.int .i64 0, .string ⟨#[]⟩, .int .i64 0, .int .i64 0] 41 (0, 0)) := by rw [← hw0]; exact hkA
            clear hw0
            have tb : Below w0.heap.size w0 w0 := Below.refl _ _
            obtain ⟨⟨c0, c1, c2, c3⟩, f0, f1, f2, f3⟩ := four_later hkA tb
            go_wp2_with (first | (go_at_call 39; (with_reducible refine (HI.out _).mono ?_); rintro e w1 ⟨rfl, rfl⟩) | (go_at_call 39; (with_reducible refine (HI2.out _).mono ?_); rintro e w1 ⟨rfl, rfl⟩) | (go_at_call 40; ((with_reducible refine (HL.out _).mono ?_); rintro e w1 ⟨rfl, hb1⟩; have tb := tb.trans (hb1.mono tb.size); obtain ⟨⟨c0, c1, c2, c3⟩, f0, f1, f2, f3⟩ := four_later hkA tb)) | (go_at_call 37; (with_reducible refine (HP.out _).mono ?_); rintro e w1 ⟨rfl, rfl⟩) | (go_at_call 41; ((with_reducible refine (HM.out _ (hwA.trans (tb.mono hwA.size))).mono ?_); rintro e w1 ⟨rfl, hb1⟩; have tb := tb.trans (hb1.mono tb.size); obtain ⟨⟨c0, c1, c2, c3⟩, f0, f1, f2, f3⟩ := four_later hkA tb)) | (go_at_call 42; (with_reducible refine (HD.out _).mono ?_); rintro e w1 ⟨rfl, rfl⟩) | (go_at_call 43; ((with_reducible refine (HNu.out _ (hwA.trans (tb.mono hwA.size))).mono ?_); rintro e w1 ⟨rfl, hb1⟩; have tb := tb.trans (hb1.mono tb.size); obtain ⟨⟨c0, c1, c2, c3⟩, f0, f1, f2, f3⟩ := four_later hkA tb)) | (go_at_call 44; ((with_reducible refine (HQ.out _).mono ?_); rintro e w1 ⟨rfl, hb1⟩; have tb := tb.trans (hb1.mono tb.size); obtain ⟨⟨c0, c1, c2, c3⟩, f0, f1, f2, f3⟩ := four_later hkA tb)) | (go_at_call 36; (with_reducible refine (HMk.out _).mono ?_); rintro e w1 ⟨rfl, rfl⟩))
            refine bodyPost_ret (v := TokV 4 ⟨#[]⟩ 0 (-1)) (by simp [TokV, results, Tryz.results19, go_sem, *]) rfl ?_
            exact TokIs.none_ HX.out (set4X (hwA.trans (tb.mono hwA.size)) (Nat.le_refl _) _ _ _ _)
          | some p =>
            rw [hml] at hQ hX0
            obtain ⟨pv, pn⟩ := p
            have HX := Lib.hid (show X = some (⟨4, pv, 0⟩, 1 + pn) from hX0)
            obtain ⟨V, hVe, -, -⟩ := arrE pv
            have hV2 : toB pv = V := hVe.symm
            have hQ : ∀ w1, Calls Tryz.prog 44 #[.string s] w1 fun e w' => e = .returned (.tuple #[.string (toB pv), .int .i64 ((1 + pn : Nat) : Int)]) ∧ Below w1.heap.size w1 w' := hQ
            rw [hV2] at hQ
            obtain ⟨qn, hqn⟩ : ∃ qn, qn = 1 + pn := ⟨_, rfl⟩
            rw [← hqn] at hQ
            have HQ := Lib.hid hQ
            have HX := Lib.hid (show X = some (⟨4, pv, 0⟩, qn) by rw [hqn]; exact HX.out)
            have HT := Lib.hid hV2
            clear hQ hX0 hml hVe hV2 hqn
            go_enter Tryz.func19, Tryz.ntmps19
            go_wp2_with fail
            generalize hw0 : w.alloc (.cells #[.int .i64 0, .string ⟨#[]⟩, .int .i64 0, .int .i64 0] 41) = w0 at *
            replace hwA : Below w.heap.size w w0 := by rw [← hw0]; exact hwA
            replace hkA : w0.heap[w.heap.size]? = some (.cells #[.int .i64 0, .string ⟨#[]⟩, .int .i64 0, .int .i64 0] 41 (0, 0)) := by rw [← hw0]; exact hkA
            clear hw0
            have tb : Below w0.heap.size w0 w0 := Below.refl _ _
            obtain ⟨⟨c0, c1, c2, c3⟩, f0, f1, f2, f3⟩ := four_later hkA tb
            go_wp2_with (first | (go_at_call 39; (with_reducible refine (HI.out _).mono ?_); rintro e w1 ⟨rfl, rfl⟩) | (go_at_call 39; (with_reducible refine (HI2.out _).mono ?_); rintro e w1 ⟨rfl, rfl⟩) | (go_at_call 40; ((with_reducible refine (HL.out _).mono ?_); rintro e w1 ⟨rfl, hb1⟩; have tb := tb.trans (hb1.mono tb.size); obtain ⟨⟨c0, c1, c2, c3⟩, f0, f1, f2, f3⟩ := four_later hkA tb)) | (go_at_call 37; (with_reducible refine (HP.out _).mono ?_); rintro e w1 ⟨rfl, rfl⟩) | (go_at_call 41; ((with_reducible refine (HM.out _ (hwA.trans (tb.mono hwA.size))).mono ?_); rintro e w1 ⟨rfl, hb1⟩; have tb := tb.trans (hb1.mono tb.size); obtain ⟨⟨c0, c1, c2, c3⟩, f0, f1, f2, f3⟩ := four_later hkA tb)) | (go_at_call 42; (with_reducible refine (HD.out _).mono ?_); rintro e w1 ⟨rfl, rfl⟩) | (go_at_call 43; ((with_reducible refine (HNu.out _ (hwA.trans (tb.mono hwA.size))).mono ?_); rintro e w1 ⟨rfl, hb1⟩; have tb := tb.trans (hb1.mono tb.size); obtain ⟨⟨c0, c1, c2, c3⟩, f0, f1, f2, f3⟩ := four_later hkA tb)) | (go_at_call 44; ((with_reducible refine (HQ.out _).mono ?_); rintro e w1 ⟨rfl, hb1⟩; have tb := tb.trans (hb1.mono tb.size); obtain ⟨⟨c0, c1, c2, c3⟩, f0, f1, f2, f3⟩ := four_later hkA tb)) | (go_at_call 36; (with_reducible refine (HMk.out _).mono ?_); rintro e w1 ⟨rfl, rfl⟩))
            refine bodyPost_ret (v := TokV 4 V 0 ((qn : Int))) (by simp [TokV, results, Tryz.results19, go_sem, *]) rfl ?_
            exact TokIs.some_ HX.out rfl rfl (by first | rfl | omega) (by first | rfl | rw [HT.out] | exact HT.out.symm | exact HT.out) (set4X (hwA.trans (tb.mono hwA.size)) (Nat.le_refl _) _ _ _ _)
        · rw [if_neg h34] at hX0
          have q2 : ((s[0].toNat : Int) == 34) = false := (u8k 34 (by decide)).trans (decide_eq_false h34)
          have hMk := ibMk s[0]
          have hmk := mk_ix s[0]
          generalize Lib.indexByte [91, 93, 40, 41, 123, 125, 44, 59] s[0] = ix at *
          have HMk := Lib.hid hMk
          clear h34 hile hn0 hw hMk
          by_cases hm : isMk s[0] = true
          · rw [if_pos hm] at hX0
            rw [hm] at hmk
            have HX := Lib.hid hX0
            have HT := Lib.hid (ext_one s h0)
            have z6 : (1 : Int) ≤ (s.size : Int) := by omega
            clear hX0 hm
            go_enter Tryz.func19, Tryz.ntmps19
            go_wp2_with fail
            generalize hw0 : w.alloc (.cells #[.int .i64 0, .string ⟨#[]⟩, .int .i64 0, .int .i64 0] 41) = w0 at *
            replace hwA : Below w.heap.size w w0 := by rw [← hw0]; exact hwA
            replace hkA : w0.heap[w.heap.size]? = some (.cells #[.int .i64 0, .string ⟨#[]⟩, .int .i64 0, .int .i64 0] 41 (0, 0)) := by rw [← hw0]; exact hkA
            clear hw0
            have tb : Below w0.heap.size w0 w0 := Below.refl _ _
            obtain ⟨⟨c0, c1, c2, c3⟩, f0, f1, f2, f3⟩ := four_later hkA tb
            go_wp2_with (first | (go_at_call 39; (with_reducible refine (HI.out _).mono ?_); rintro e w1 ⟨rfl, rfl⟩) | (go_at_call 39; (with_reducible refine (HI2.out _).mono ?_); rintro e w1 ⟨rfl, rfl⟩) | (go_at_call 40; ((with_reducible refine (HL.out _).mono ?_); rintro e w1 ⟨rfl, hb1⟩; have tb := tb.trans (hb1.mono tb.size); obtain ⟨⟨c0, c1, c2, c3⟩, f0, f1, f2, f3⟩ := four_later hkA tb)) | (go_at_call 37; (with_reducible refine (HP.out _).mono ?_); rintro e w1 ⟨rfl, rfl⟩) | (go_at_call 41; ((with_reducible refine (HM.out _ (hwA.trans (tb.mono hwA.size))).mono ?_); rintro e w1 ⟨rfl, hb1⟩; have tb := tb.trans (hb1.mono tb.size); obtain ⟨⟨c0, c1, c2, c3⟩, f0, f1, f2, f3⟩ := four_later hkA tb)) | (go_at_call 42; (with_reducible refine (HD.out _).mono ?_); rintro e w1 ⟨rfl, rfl⟩) | (go_at_call 43; ((with_reducible refine (HNu.out _ (hwA.trans (tb.mono hwA.size))).mono ?_); rintro e w1 ⟨rfl, hb1⟩; have tb := tb.trans (hb1.mono tb.size); obtain ⟨⟨c0, c1, c2, c3⟩, f0, f1, f2, f3⟩ := four_later hkA tb)) | (go_at_call 44; ((with_reducible refine (HQ.out _).mono ?_); rintro e w1 ⟨rfl, hb1⟩; have tb := tb.trans (hb1.mono tb.size); obtain ⟨⟨c0, c1, c2, c3⟩, f0, f1, f2, f3⟩ := four_later hkA tb)) | (go_at_call 36; (with_reducible refine (HMk.out _).mono ?_); rintro e w1 ⟨rfl, rfl⟩))
            refine bodyPost_ret (v := TokV 5 (s.extract 0 1) 0 (1)) (by simp [TokV, results, Tryz.results19, go_sem, *]) rfl ?_
            exact TokIs.some_ HX.out rfl rfl (by first | rfl | omega) (by first | rfl | rw [HT.out] | exact HT.out.symm | exact HT.out) (set4X (hwA.trans (tb.mono hwA.size)) (Nat.le_refl _) _ _ _ _)
          · rw [if_neg hm] at hX0
            have hm : isMk s[0] = false := by simpa using hm
            rw [hm] at hmk
            have HX := Lib.hid hX0
            clear hX0 hm
            go_enter Tryz.func19, Tryz.ntmps19
            go_wp2_with fail
            generalize hw0 : w.alloc (.cells #[.int .i64 0, .string ⟨#[]⟩, .int .i64 0, .int .i64 0] 41) = w0 at *
            replace hwA : Below w.heap.size w w0 := by rw [← hw0]; exact hwA
            replace hkA : w0.heap[w.heap.size]? = some (.cells #[.int .i64 0, .string ⟨#[]⟩, .int .i64 0, .int .i64 0] 41 (0, 0)) := by rw [← hw0]; exact hkA
            clear hw0
            have tb : Below w0.heap.size w0 w0 := Below.refl _ _
            obtain ⟨⟨c0, c1, c2, c3⟩, f0, f1, f2, f3⟩ := four_later hkA tb
            go_wp2_with (first | (go_at_call 39; (with_reducible refine (HI.out _).mono ?_); rintro e w1 ⟨rfl, rfl⟩) | (go_at_call 39; (with_reducible refine (HI2.out _).mono ?_); rintro e w1 ⟨rfl, rfl⟩) | (go_at_call 40; ((with_reducible refine (HL.out _).mono ?_); rintro e w1 ⟨rfl, hb1⟩; have tb := tb.trans (hb1.mono tb.size); obtain ⟨⟨c0, c1, c2, c3⟩, f0, f1, f2, f3⟩ := four_later hkA tb)) | (go_at_call 37; (with_reducible refine (HP.out _).mono ?_); rintro e w1 ⟨rfl, rfl⟩) | (go_at_call 41; ((with_reducible refine (HM.out _ (hwA.trans (tb.mono hwA.size))).mono ?_); rintro e w1 ⟨rfl, hb1⟩; have tb := tb.trans (hb1.mono tb.size); obtain ⟨⟨c0, c1, c2, c3⟩, f0, f1, f2, f3⟩ := four_later hkA tb)) | (go_at_call 42; (with_reducible refine (HD.out _).mono ?_); rintro e w1 ⟨rfl, rfl⟩) | (go_at_call 43; ((with_reducible refine (HNu.out _ (hwA.trans (tb.mono hwA.size))).mono ?_); rintro e w1 ⟨rfl, hb1⟩; have tb := tb.trans (hb1.mono tb.size); obtain ⟨⟨c0, c1, c2, c3⟩, f0, f1, f2, f3⟩ := four_later hkA tb)) | (go_at_call 44; ((with_reducible refine (HQ.out _).mono ?_); rintro e w1 ⟨rfl, hb1⟩; have tb := tb.trans (hb1.mono tb.size); obtain ⟨⟨c0, c1, c2, c3⟩, f0, f1, f2, f3⟩ := four_later hkA tb)) | (go_at_call 36; (with_reducible refine (HMk.out _).mono ?_); rintro e w1 ⟨rfl, rfl⟩))
            refine bodyPost_ret (v := TokV 0 ⟨#[]⟩ 0 (-1)) (by simp [TokV, results, Tryz.results19, go_sem, *]) rfl ?_
            exact TokIs.none_ HX.out (set4X (hwA.trans (tb.mono hwA.size)) (Nat.le_refl _) _ _ _ _)
end Go.Proofs.YtgimgkjggaijoaaGreatDoor
