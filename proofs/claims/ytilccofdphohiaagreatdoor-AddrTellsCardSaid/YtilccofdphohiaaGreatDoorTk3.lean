/- Walks: token: front. -/
import Derived.Test.YtilccofdphohiaaGreatDoorTk2
import Derived.RegionTactic
import Derived.ChangeAlike
namespace Go.Proofs.YtilccofdphohiaaGreatDoor
open Go.RowKit Pk Tk Su

def FrRet (s : ByteArray) (w : World) (e : Ending) (w' : World) : Prop := e = .returned (.tuple #[.agg #[.int .i64 ((frS s).1 : Nat), .string (s.extract 0 (frS s).2)], .string (s.extract (frS s).2 s.size)]) ∧ Below w.heap.size w w'
theorem fr_end {s : ByteArray} {w w' : World} {k n : Nat} (e : frS s = (k, n)) (hb : Below w.heap.size w w') : FrRet s w (.returned (.tuple #[.agg #[.int .i64 (k : Nat), .string (s.extract 0 n)], .string (s.extract n s.size)])) w' := by
  unfold FrRet; rw [e]; exact ⟨rfl, hb⟩
theorem closed_40 (s : ByteArray) (w : World) (hs : s.size ≤ 100000000) : Calls Tryz.prog 77 #[.string s, .int .u8 41] w (CloRet 41 s w) := closed_any s 41 w hs
theorem closed_34 (s : ByteArray) (w : World) (hs : s.size ≤ 100000000) : Calls Tryz.prog 77 #[.string s, .int .u8 34] w (CloRet 34 s w) := closed_any s 34 w hs
theorem closed_91 (s : ByteArray) (w : World) (hs : s.size ≤ 100000000) : Calls Tryz.prog 77 #[.string s, .int .u8 93] w (CloRet 93 s w) := closed_any s 93 w hs
set_option maxHeartbeats 4000000 in
set_option maxRecDepth 100000 in
theorem front_any (s : ByteArray) (w : World) (h0 : 0 < s.size) (hs : s.size ≤ 100000000) : Calls Tryz.prog 45 #[.string s] w (FrRet s w) := by
  have hr : 1 ≤ (frS s).2 ∧ (frS s).2 ≤ s.size := fr_rng (l := s.data.toList) (fun e => by have : s.data.toList.length = s.size := rfl; rw [e] at this; simp at this; omega)
  have hB := tblank_any s[0]
  obtain ⟨ix, hix⟩ : ∃ ix, ix = Lib.indexByte [40, 41, 60, 62, 91, 93, 58, 59, 64, 92, 44, 46, 34] s[0] := ⟨_, rfl⟩
  have hI := ibT s[0]
  have hsp := (spec_ix s[0]).2
  rw [← hix] at hI hsp
  have hA := tatom_any s[0]
  have HI := Lib.hid hI
  clear hI hix
  have qa : ((s[0].toNat : Int) == 40) = decide (s[0] = 40) := u8k 40 (by decide)
  have qb : ((s[0].toNat : Int) == 34) = decide (s[0] = 34) := u8k 34 (by decide)
  have qc : ((s[0].toNat : Int) == 91) = decide (s[0] = 91) := u8k 91 (by decide)
  rcases fr_cases s h0 with ⟨b, e⟩ | ⟨b, e1, e⟩ | ⟨b, e1, e⟩ | ⟨b, e1, e⟩ | ⟨b, e1, e2, e3, e4, e⟩ | ⟨b, e1, e2, e3, e4, e5, e⟩ | ⟨b, e1, e2, e3, e4, e5, e⟩
  · rw [b] at hB
    have HB := Lib.hid hB
    rw [e] at hr
    have hR : ∀ w, Calls Tryz.prog 74 #[.string s, .func (.func 73) #[] #[]] w (RowRet Su.blk s w) := fun w => row_blank s w hs
    unfold RowRet at hR
    generalize (s.data.toList.takeWhile Su.blk).length = n at hr e hR
    have HR := Lib.hid hR
    have FE := Lib.hid (fun w' hb => fr_end (w := w) (w' := w') e hb)
    have z1 : (0 : Int) ≤ (n : Int) := by omega
    have z2 : (n : Int) ≤ (s.size : Int) := by omega
    obtain ⟨r1, r2⟩ := hr
    clear hB hR e b hA hsp qa qb qc
    go_enter Tryz.func45, Tryz.ntmps45
    go_wp2_with (first
      | (go_at_call 73; refine (HB.out _).mono ?_; rintro e w' ⟨rfl, rfl⟩)
      | (go_at_call 74; refine (HR.out _).mono ?_; rintro e w' ⟨rfl, rfl⟩))
    all_goals
      go_region
      all_goals
        go_wp2
        exact bodyPost_ret (v := .tuple #[.agg #[.int .i64 (6 : Nat), .string (s.extract 0 n)], .string (s.extract n s.size)]) (by simp [results, Tryz.results45, go_sem]) rfl (FE.out _ ((Below.refl _ _).alloc (Nat.le_refl _) _).drew)
  · rw [b] at hB
    have HB := Lib.hid hB
    have hC : ∀ w, Calls Tryz.prog 77 #[.string s, .int .u8 41] w (CloRet 41 s w) := fun w => closed_40 s w hs
    have QQ : ((s[0].toNat : Int) == 40) = true := by rw [qa, decide_eq_true e1]
    skip
    rw [cls_X 3 41 s h0] at e
    unfold CloRet cloV at hC
    cases hX : cloX 41 s with
    | some n =>
      rw [hX] at e hC
      have e : frS s = (3, n) := e
      rw [e] at hr
      have HC := Lib.hid hC
      have FE := Lib.hid (fun w' hb => fr_end (w := w) (w' := w') e hb)
      have z1 : (0 : Int) ≤ (n : Int) := by omega
      have z2 : (n : Int) ≤ (s.size : Int) := by have := hr.2; omega
      clear hB hC e e1 b hA hsp qa qb qc hX hr
      go_enter Tryz.func45, Tryz.ntmps45
      go_wp2_with (first
        | (go_at_call 73; refine (HB.out _).mono ?_; rintro e w' ⟨rfl, rfl⟩)
        | (go_at_call 77; refine (HC.out _).mono ?_; rintro e w' ⟨rfl, rfl⟩))
      all_goals
        go_region
        all_goals
          go_wp2
          exact bodyPost_ret (v := .tuple #[.agg #[.int .i64 (3 : Nat), .string (s.extract 0 n)], .string (s.extract n s.size)]) (by simp [results, Tryz.results45, go_sem]) rfl (FE.out _ ((Below.refl _ _).alloc (Nat.le_refl _) _).drew)
    | none =>
      rw [hX] at e hC
      have HC := Lib.hid hC
      obtain ⟨n, hn⟩ : ∃ n, n = s.size := ⟨_, rfl⟩
      rw [← hn] at e
      have FE := Lib.hid (fun w' hb => fr_end (w := w) (w' := w') e hb)
      subst hn
      have z2 : (s.size : Int) ≤ (s.size : Int) := by omega
      clear hB hC e e1 b hA hsp qa qb qc hX hr
      go_enter Tryz.func45, Tryz.ntmps45
      go_wp2_with (first
        | (go_at_call 73; refine (HB.out _).mono ?_; rintro e w' ⟨rfl, rfl⟩)
        | (go_at_call 77; refine (HC.out _).mono ?_; rintro e w' ⟨rfl, rfl⟩))
      all_goals
        go_region
        all_goals
          go_wp2
          exact bodyPost_ret (v := .tuple #[.agg #[.int .i64 (7 : Nat), .string (s.extract 0 s.size)], .string (s.extract s.size s.size)]) (by simp [results, Tryz.results45, go_sem]) rfl (FE.out _ ((Below.refl _ _).alloc (Nat.le_refl _) _).drew)
  · rw [b] at hB
    have HB := Lib.hid hB
    have hC : ∀ w, Calls Tryz.prog 77 #[.string s, .int .u8 34] w (CloRet 34 s w) := fun w => closed_34 s w hs
    have QQ : ((s[0].toNat : Int) == 34) = true := by rw [qb, decide_eq_true e1]
    rw [e1] at qa; have QA : ((34 : Int) == 40) = false := by decide
    rw [cls_X 2 34 s h0] at e
    unfold CloRet cloV at hC
    cases hX : cloX 34 s with
    | some n =>
      rw [hX] at e hC
      have e : frS s = (2, n) := e
      rw [e] at hr
      have HC := Lib.hid hC
      have FE := Lib.hid (fun w' hb => fr_end (w := w) (w' := w') e hb)
      have z1 : (0 : Int) ≤ (n : Int) := by omega
      have z2 : (n : Int) ≤ (s.size : Int) := by have := hr.2; omega
      clear hB hC e e1 b hA hsp qa qb qc hX hr
      go_enter Tryz.func45, Tryz.ntmps45
      go_wp2_with (first
        | (go_at_call 73; refine (HB.out _).mono ?_; rintro e w' ⟨rfl, rfl⟩)
        | (go_at_call 77; refine (HC.out _).mono ?_; rintro e w' ⟨rfl, rfl⟩))
      all_goals
        go_region
        all_goals
          go_wp2
          exact bodyPost_ret (v := .tuple #[.agg #[.int .i64 (2 : Nat), .string (s.extract 0 n)], .string (s.extract n s.size)]) (by simp [results, Tryz.results45, go_sem]) rfl (FE.out _ ((Below.refl _ _).alloc (Nat.le_refl _) _).drew)
    | none =>
      rw [hX] at e hC
      have HC := Lib.hid hC
      obtain ⟨n, hn⟩ : ∃ n, n = s.size := ⟨_, rfl⟩
      rw [← hn] at e
      have FE := Lib.hid (fun w' hb => fr_end (w := w) (w' := w') e hb)
      subst hn
      have z2 : (s.size : Int) ≤ (s.size : Int) := by omega
      clear hB hC e e1 b hA hsp qa qb qc hX hr
      go_enter Tryz.func45, Tryz.ntmps45
      go_wp2_with (first
        | (go_at_call 73; refine (HB.out _).mono ?_; rintro e w' ⟨rfl, rfl⟩)
        | (go_at_call 77; refine (HC.out _).mono ?_; rintro e w' ⟨rfl, rfl⟩))
      all_goals
        go_region
        all_goals
          go_wp2
          exact bodyPost_ret (v := .tuple #[.agg #[.int .i64 (7 : Nat), .string (s.extract 0 s.size)], .string (s.extract s.size s.size)]) (by simp [results, Tryz.results45, go_sem]) rfl (FE.out _ ((Below.refl _ _).alloc (Nat.le_refl _) _).drew)
  · rw [b] at hB
    have HB := Lib.hid hB
    have hC : ∀ w, Calls Tryz.prog 77 #[.string s, .int .u8 93] w (CloRet 93 s w) := fun w => closed_91 s w hs
    have QQ : ((s[0].toNat : Int) == 91) = true := by rw [qc, decide_eq_true e1]
    skip
    rw [cls_X 5 93 s h0] at e
    unfold CloRet cloV at hC
    cases hX : cloX 93 s with
    | some n =>
      rw [hX] at e hC
      have e : frS s = (5, n) := e
      rw [e] at hr
      have HC := Lib.hid hC
      have FE := Lib.hid (fun w' hb => fr_end (w := w) (w' := w') e hb)
      have z1 : (0 : Int) ≤ (n : Int) := by omega
      have z2 : (n : Int) ≤ (s.size : Int) := by have := hr.2; omega
      clear hB hC e e1 b hA hsp qa qb qc hX hr
      go_enter Tryz.func45, Tryz.ntmps45
      go_wp2_with (first
        | (go_at_call 73; refine (HB.out _).mono ?_; rintro e w' ⟨rfl, rfl⟩)
        | (go_at_call 77; refine (HC.out _).mono ?_; rintro e w' ⟨rfl, rfl⟩))
      all_goals
        go_region
        all_goals
          go_wp2
          exact bodyPost_ret (v := .tuple #[.agg #[.int .i64 (5 : Nat), .string (s.extract 0 n)], .string (s.extract n s.size)]) (by simp [results, Tryz.results45, go_sem]) rfl (FE.out _ ((Below.refl _ _).alloc (Nat.le_refl _) _).drew)
    | none =>
      rw [hX] at e hC
      have HC := Lib.hid hC
      obtain ⟨n, hn⟩ : ∃ n, n = s.size := ⟨_, rfl⟩
      rw [← hn] at e
      have FE := Lib.hid (fun w' hb => fr_end (w := w) (w' := w') e hb)
      subst hn
      have z2 : (s.size : Int) ≤ (s.size : Int) := by omega
      clear hB hC e e1 b hA hsp qa qb qc hX hr
      go_enter Tryz.func45, Tryz.ntmps45
      go_wp2_with (first
        | (go_at_call 73; refine (HB.out _).mono ?_; rintro e w' ⟨rfl, rfl⟩)
        | (go_at_call 77; refine (HC.out _).mono ?_; rintro e w' ⟨rfl, rfl⟩))
      all_goals
        go_region
        all_goals
          go_wp2
          exact bodyPost_ret (v := .tuple #[.agg #[.int .i64 (7 : Nat), .string (s.extract 0 s.size)], .string (s.extract s.size s.size)]) (by simp [results, Tryz.results45, go_sem]) rfl (FE.out _ ((Below.refl _ _).alloc (Nat.le_refl _) _).drew)
  · rw [b] at hB
    rw [decide_eq_false e1] at qa
    rw [decide_eq_false e2] at qb
    rw [decide_eq_false e3] at qc
    rw [e4] at hsp
    have HB := Lib.hid hB
    obtain ⟨n, hn⟩ : ∃ n, n = 1 := ⟨_, rfl⟩
    rw [← hn] at e
    rw [e] at hr
    have FE := Lib.hid (fun w' hb => fr_end (w := w) (w' := w') e hb)
    subst hn
    have z2 : (1 : Int) ≤ (s.size : Int) := by omega
    clear hB e e1 e2 e3 e4 b hA hr
    go_enter Tryz.func45, Tryz.ntmps45
    go_wp2_with (first
      | (go_at_call 73; refine (HB.out _).mono ?_; rintro e w' ⟨rfl, rfl⟩)
      | (go_at_call 75; refine (HI.out _).mono ?_; rintro e w' ⟨rfl, rfl⟩))
    all_goals
      go_region
      all_goals
        go_wp2
        exact bodyPost_ret (v := .tuple #[.agg #[.int .i64 (4 : Nat), .string (s.extract 0 1)], .string (s.extract 1 s.size)]) (by simp [results, Tryz.results45, go_sem]) rfl (FE.out _ ((Below.refl _ _).alloc (Nat.le_refl _) _).drew)
  · rw [b] at hB
    rw [decide_eq_false e1] at qa
    rw [decide_eq_false e2] at qb
    rw [decide_eq_false e3] at qc
    rw [e4] at hsp
    rw [e5] at hA
    have HB := Lib.hid hB
    have HA := Lib.hid hA
    rw [e] at hr
    have hR : ∀ w, Calls Tryz.prog 74 #[.string s, .func (.func 76) #[] #[]] w (RowRet atm s w) := fun w => row_atom s w hs
    unfold RowRet at hR
    generalize (s.data.toList.takeWhile atm).length = n at hr e hR
    have HR := Lib.hid hR
    have FE := Lib.hid (fun w' hb => fr_end (w := w) (w' := w') e hb)
    have z1 : (0 : Int) ≤ (n : Int) := by omega
    have z2 : (n : Int) ≤ (s.size : Int) := by omega
    obtain ⟨r1, r2⟩ := hr
    clear hB hR e e1 e2 e3 e4 e5 b hA
    go_enter Tryz.func45, Tryz.ntmps45
    go_wp2_with (first
      | (go_at_call 73; refine (HB.out _).mono ?_; rintro e w' ⟨rfl, rfl⟩)
      | (go_at_call 75; refine (HI.out _).mono ?_; rintro e w' ⟨rfl, rfl⟩)
      | (go_at_call 76; refine (HA.out _).mono ?_; rintro e w' ⟨rfl, rfl⟩)
      | (go_at_call 74; refine (HR.out _).mono ?_; rintro e w' ⟨rfl, rfl⟩))
    all_goals
      go_region
      all_goals
        go_wp2
        exact bodyPost_ret (v := .tuple #[.agg #[.int .i64 (1 : Nat), .string (s.extract 0 n)], .string (s.extract n s.size)]) (by simp [results, Tryz.results45, go_sem]) rfl (FE.out _ ((Below.refl _ _).alloc (Nat.le_refl _) _).drew)
  · rw [b] at hB
    rw [decide_eq_false e1] at qa
    rw [decide_eq_false e2] at qb
    rw [decide_eq_false e3] at qc
    rw [e4] at hsp
    rw [e5] at hA
    have HB := Lib.hid hB
    have HA := Lib.hid hA
    obtain ⟨n, hn⟩ : ∃ n, n = 1 := ⟨_, rfl⟩
    rw [← hn] at e
    rw [e] at hr
    have FE := Lib.hid (fun w' hb => fr_end (w := w) (w' := w') e hb)
    subst hn
    have z2 : (1 : Int) ≤ (s.size : Int) := by omega
    clear hB e e1 e2 e3 e4 e5 b hA hr
    go_enter Tryz.func45, Tryz.ntmps45
    go_wp2_with (first
      | (go_at_call 73; refine (HB.out _).mono ?_; rintro e w' ⟨rfl, rfl⟩)
      | (go_at_call 75; refine (HI.out _).mono ?_; rintro e w' ⟨rfl, rfl⟩)
      | (go_at_call 76; refine (HA.out _).mono ?_; rintro e w' ⟨rfl, rfl⟩))
    all_goals
      go_region
      all_goals
        go_wp2
        exact bodyPost_ret (v := .tuple #[.agg #[.int .i64 (7 : Nat), .string (s.extract 0 1)], .string (s.extract 1 s.size)]) (by simp [results, Tryz.results45, go_sem]) rfl (FE.out _ ((Below.refl _ _).alloc (Nat.le_refl _) _).drew)
end Go.Proofs.YtilccofdphohiaaGreatDoor
