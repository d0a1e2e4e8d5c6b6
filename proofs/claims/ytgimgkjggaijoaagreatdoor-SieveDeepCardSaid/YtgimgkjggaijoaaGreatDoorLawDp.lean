/- Walks: the law of nested blocks and tests. -/
import Derived.Test.YtgimgkjggaijoaaGreatDoorLawSv
import Derived.Test.YtgimgkjggaijoaaGreatDoorSvDp
namespace Sv
open Go Lx C1
theorem repB_snoc (x : List UInt8) : ∀ n, repB (n + 1) x = repB n x ++ x
  | 0 => by show x ++ [] = [] ++ x; simp
  | n + 1 => by show x ++ repB (n + 1) x = (x ++ repB n x) ++ x; rw [repB_snoc x n, List.append_assoc]
theorem repB_len (x : List UInt8) : ∀ n, (repB n x).length = n * x.length
  | 0 => by simp [repB]
  | n + 1 => by show (x ++ repB n x).length = _; rw [List.length_append, repB_len x n, Nat.succ_mul, Nat.add_comm]
/-- a string that grows by a piece in each round -/
def RepTo (S : ByteArray) (pre x : List UInt8) (i : Nat) : Prop := S.data.toList = pre ++ repB i x
theorem repTo_step {S : ByteArray} {pre x : List UInt8} {i : Nat} (h : RepTo S pre x i) (X : ByteArray) (hX : X.data.toList = x) : RepTo (S ++ X) pre x (i + 1) := by
  unfold RepTo at *
  rw [ByteArray.data_append, repB_snoc, ← List.append_assoc, ← h, ← hX]
  simp
theorem deep_res {S : ByteArray} {b t : Nat} (hb : b < 31) (ht : t < 31) (hS : S.data.toList = deepL b t) :
    ∃ r, PRes S r ∧ ((∃ c, r = .ok [c] ∧ b + t ≤ 8 ∧ rightC 0 c = true) ∨ (8 < b ∧ r = .error (10, 18)) ∨ (b ≤ 8 ∧ 8 < b + t ∧ r = .error (10, 2 * (b : Int) + 1 + 2 * (8 - (b : Int)) + 1))) := by
  have h := deep_all b hb t ht
  unfold deepOk at h
  have hsz : S.size = (deepL b t).length := by rw [← hS]; exact (Array.length_toList (xs := S.data)).symm
  split at h
  · rename_i ts hr
    have hrun := runF_run _ _ _ _ _ hr
    rw [← hS] at hrun
    split at h
    · rename_i c hp
      rw [← hsz] at hp
      rw [Bool.and_eq_true] at h
      exact ⟨_, .inr ⟨ts, 400, hrun, hp⟩, .inl ⟨c, rfl, of_decide_eq_true h.1, h.2⟩⟩
    · rename_i e hp
      rw [← hsz] at hp
      refine ⟨_, .inr ⟨ts, 400, hrun, hp⟩, .inr ?_⟩
      split at h
      · rename_i h8
        exact .inl ⟨h8, by rw [of_decide_eq_true h]⟩
      · rename_i h8
        rw [Bool.and_eq_true] at h
        exact .inr ⟨by omega, of_decide_eq_true h.1, by rw [of_decide_eq_true h.2]⟩
    · cases h
  · cases h
end Sv
namespace Go.Proofs.YtgimgkjggaijoaaGreatDoor
open Go.RowKit Pk Lx Sv

set_option maxHeartbeats 8000000 in
set_option maxRecDepth 100000 in
theorem deep_any (b t : Int) (w : World) (hw : LW w) (ht : TabN w) : Calls Tryz.prog 4 #[.int .i64 b, .int .i64 t] w (BlRet true w) := by
  have HSm := Lib.hid (small_any w hw ht)
  have HW := Lib.hid (fun w1 (hb : Below w.heap.size w w1) => hw.later hb)
  clear hw ht
  by_cases h1 : b < 0
  · have k1 : decide (b < 0) = true := decide_eq_true h1
    clear h1
    have tb : Below w.heap.size w w := Below.refl _ _
    go_enter Tryz.func4, Tryz.ntmps4
    go_wp2_with fail
    refine HSm.out.mono ?_
    rintro e w1 ⟨rfl, hb1⟩
    replace tb := tb.trans (hb1.mono tb.size)
    go_wp2
    go_ret
    exact ⟨rfl, tb⟩
  · have k1 : decide (b < 0) = false := decide_eq_false h1
    by_cases h2 : 30 < b
    · have k2 : decide ((30 : Int) < b) = true := decide_eq_true h2
      clear h1 h2
      have tb : Below w.heap.size w w := Below.refl _ _
      go_enter Tryz.func4, Tryz.ntmps4
      go_wp2_with fail
      refine HSm.out.mono ?_
      rintro e w1 ⟨rfl, hb1⟩
      replace tb := tb.trans (hb1.mono tb.size)
      go_wp2
      go_ret
      exact ⟨rfl, tb⟩
    · have k2 : decide ((30 : Int) < b) = false := decide_eq_false h2
      by_cases h3 : t < 0
      · have k3 : decide (t < 0) = true := decide_eq_true h3
        clear h1 h2 h3
        have tb : Below w.heap.size w w := Below.refl _ _
        go_enter Tryz.func4, Tryz.ntmps4
        go_wp2_with fail
        refine HSm.out.mono ?_
        rintro e w1 ⟨rfl, hb1⟩
        replace tb := tb.trans (hb1.mono tb.size)
        go_wp2
        go_ret
        exact ⟨rfl, tb⟩
      · have k3 : decide (t < 0) = false := decide_eq_false h3
        by_cases h4 : 30 < t
        · have k4 : decide ((30 : Int) < t) = true := decide_eq_true h4
          clear h1 h2 h3 h4
          have tb : Below w.heap.size w w := Below.refl _ _
          go_enter Tryz.func4, Tryz.ntmps4
          go_wp2_with fail
          refine HSm.out.mono ?_
          rintro e w1 ⟨rfl, hb1⟩
          replace tb := tb.trans (hb1.mono tb.size)
          go_wp2
          go_ret
          exact ⟨rfl, tb⟩
        · have k4 : decide ((30 : Int) < t) = false := decide_eq_false h4
          obtain ⟨B, rfl⟩ := Int.eq_ofNat_of_zero_le (show 0 ≤ b by omega)
          obtain ⟨T, rfl⟩ := Int.eq_ofNat_of_zero_le (show 0 ≤ t by omega)
          have hB : B ≤ 30 := by omega
          have hT : T ≤ 30 := by omega
          clear h1 h2 h3 h4
          have tb : Below w.heap.size w w := Below.refl _ _
          go_enter Tryz.func4, Tryz.ntmps4
          go_wp2_with fail
          refine HSm.out.mono ?_
          rintro e w1 ⟨rfl, hb1⟩
          replace tb := tb.trans (hb1.mono tb.size)
          go_wp2_with fail
          go_loopw [6, 7] (fun sv iv wr => ∃ (i : Nat) (S : ByteArray), iv = .int .i64 i ∧ sv = .string S ∧ i ≤ B ∧ S.size ≤ 2 * i ∧ Below w.heap.size w wr ∧ Hid (RepTo S [] [97, 123] i)) (fun _ iv _ => B - (intOf iv).toNat)
          case atStart => exact ⟨0, _, by first | rfl | trivial, rfl, by omega, by decide, tb, rfl⟩
          case round =>
            clear hb1 tb
            obtain ⟨i, S, rfl, rfl, hi, hSz, tb, hrel⟩ := hrel
            by_cases hlt : i < B
            · have hn := Lib.hid (repTo_step hrel.out ⟨#[97, 123]⟩ rfl)
              have hsn : (S ++ ⟨#[97, 123]⟩ : ByteArray).size ≤ 2 * (i + 1) := by rw [ByteArray.size_append]; show S.size + 2 ≤ _; omega
              clear hrel
              go_wp2
              go_roundw
              case rel => exact ⟨i + 1, _, by go_num, rfl, by omega, hsn, tb, hn⟩
              case measure => simp [intOf]; omega
            · have hie : i = B := by omega
              subst hie
              obtain ⟨S1, hS1⟩ : ∃ S1, S1 = S ++ ⟨#[98]⟩ := ⟨_, rfl⟩
              have hd1 : S1.data.toList = repB i [97, 123] ++ [98] := by
                have := hrel.out
                unfold RepTo at this
                rw [hS1, ByteArray.data_append, Array.toList_append, this]; rfl
              have hz1 : S1.size = 2 * i + 1 := by
                have e : S1.size = S1.data.toList.length := (Array.length_toList (xs := S1.data)).symm
                rw [e, hd1, List.length_append, repB_len]
                show i * 2 + 1 = _
                omega
              have hS1s : S1.size ≤ 61 := by omega
              have HD1 := Lib.hid hd1
              have HZ1 := Lib.hid hz1
              have hst : RepTo S1 (repB i [97, 123] ++ [98]) [32, 116] 0 := by unfold RepTo; rw [hd1]; show _ = _ ++ []; simp
              have HE := Lib.hid hS1
              have hs30 : S.size ≤ 60 := by omega
              clear hrel hd1 hz1 hS1 hlt
              go_wp2_with fail
              rw [← HE.out]
              have HSz := Lib.hid (show S.size = 2 * i from by have := HZ1.out; have h2 := HE.out; rw [h2, ByteArray.size_append] at this; have e : (⟨#[98]⟩ : ByteArray).size = 1 := rfl; omega)
              clear HE HZ1 HD1
              generalize wr = wa at *
              go_loopw [6, 9] (fun sv iv wr => ∃ (j : Nat) (S2 : ByteArray), iv = .int .i64 j ∧ sv = .string S2 ∧ j ≤ T ∧ S2.size ≤ 61 + 2 * j ∧ Below w.heap.size w wr ∧ Hid (RepTo S2 (repB i [97, 123] ++ [98]) [32, 116] j)) (fun _ iv _ => T - (intOf iv).toNat)
              case atStart => exact ⟨0, S1, by first | rfl | trivial, rfl, by omega, by omega, tb, hst⟩
              case round =>
                clear tb hst
                obtain ⟨j, S2, rfl, rfl, hj, hSz2, tb, hrel⟩ := hrel
                by_cases hlt : j < T
                · have hn := Lib.hid (repTo_step hrel.out ⟨#[32, 116]⟩ rfl)
                  have hsn : (S2 ++ ⟨#[32, 116]⟩ : ByteArray).size ≤ 61 + 2 * (j + 1) := by rw [ByteArray.size_append]; show S2.size + 2 ≤ _; omega
                  clear hrel
                  go_wp2
                  go_roundw
                  case rel => exact ⟨j + 1, _, by go_num, rfl, by omega, hsn, tb, hn⟩
                  case measure => simp [intOf]; omega
                · have hje : j = T := by omega
                  subst hje
                  obtain ⟨S3, hS3⟩ : ∃ S3, S3 = S2 ++ ⟨#[59]⟩ := ⟨_, rfl⟩
                  have hd3 : S3.data.toList = repB i [97, 123] ++ [98] ++ repB j [32, 116] ++ [59] := by
                    have := hrel.out
                    unfold RepTo at this
                    rw [hS3, ByteArray.data_append, Array.toList_append, this]
                  have hz3 : S3.size ≤ 122 := by rw [hS3, ByteArray.size_append]; show S2.size + 1 ≤ _; omega
                  have hst : RepTo S3 (repB i [97, 123] ++ [98] ++ repB j [32, 116] ++ [59]) [125] 0 := by unfold RepTo; rw [hd3]; show _ = _ ++ []; simp
                  have HE := Lib.hid hS3
                  clear hrel hd3 hS3 hlt
                  go_wp2_with fail
                  rw [← HE.out]
                  clear HE
                  generalize wr = wb at *
                  go_loopw [6, 10] (fun sv iv wr => ∃ (l : Nat) (S4 : ByteArray), iv = .int .i64 l ∧ sv = .string S4 ∧ l ≤ i ∧ S4.size ≤ 122 + l ∧ Below w.heap.size w wr ∧ Hid (RepTo S4 (repB i [97, 123] ++ [98] ++ repB j [32, 116] ++ [59]) [125] l)) (fun _ iv _ => i - (intOf iv).toNat)
                  case atStart => exact ⟨0, S3, by first | rfl | trivial, rfl, by omega, by omega, tb, hst⟩
                  case round =>
                    clear tb hst
                    obtain ⟨l, S4, rfl, rfl, hl, hSz4, tb, hrel⟩ := hrel
                    by_cases hlt : l < i
                    · have hn := Lib.hid (repTo_step hrel.out ⟨#[125]⟩ rfl)
                      have hsn : (S4 ++ ⟨#[125]⟩ : ByteArray).size ≤ 122 + (l + 1) := by rw [ByteArray.size_append]; show S4.size + 1 ≤ _; omega
                      clear hrel
                      go_wp2
                      go_roundw
                      case rel => exact ⟨l + 1, _, by go_num, rfl, by omega, hsn, tb, hn⟩
                      case measure => simp [intOf]; omega
                    · have hle : l = i := by omega
                      subst hle
                      obtain ⟨r, hr, hcases⟩ := deep_res (b := l) (t := j) (by omega) (by omega) hrel.out
                      have HP := Lib.hid (script_any S4 r hr (by omega) wr (HW.out wr tb))
                      have hsz := tb.size
                      have hw0 : IntKind.i64.wrap ((l : Int) + (j : Int)) = (l : Int) + (j : Int) := w64 rfl (by omega) (by omega)
                      have hpw : ∀ c, r = .ok [c] → wCs [c] ≤ 100000000 := fun c h => by subst h; have := (pres_w hr).2; omega
                      clear hr hrel hlt
                      rcases hcases with ⟨c, rfl, h8, hrt⟩ | ⟨h8, rfl⟩ | ⟨h8, h9, rfl⟩
                      · have k5 : decide ((l : Int) + (j : Int) ≤ 8) = true := decide_eq_true (by omega)
                        have hrt2 : rightsC 0 [c] = true := by show (rightC 0 c && true) = true; rw [hrt]; rfl
                        have hwc := hpw c rfl
                        clear h8 hrt hpw
                        go_wp2_with fail
                        refine HP.out.mono ?_
                        rintro e w2 ⟨hb2, ⟨p, n, cc⟩, rfl, hC⟩
                        dsimp only [SlV.val] at hC ⊢
                        obtain ⟨hn, -⟩ := cmds_len hC
                        replace hn : n = 1 := hn
                        subst hn
                        have HRt := Lib.hid (rightP_any _ _ [c] w2 hC hwc)
                        rw [hrt2] at HRt
                        clear hC hrt2 hwc
                        go_wp2_with fail
                        refine HRt.out.mono ?_
                        rintro e w3 ⟨rfl, hb3⟩
                        go_wp2
                        go_ret
                        exact ⟨rfl, tb.trans ((hb2.trans (hb3.mono hb2.size)).mono hsz)⟩
                      · have k5 : decide ((l : Int) + (j : Int) ≤ 8) = false := decide_eq_false (by omega)
                        have k6 : decide ((8 : Int) < (l : Int)) = true := decide_eq_true (by omega)
                        have k7 : decide (8 < l) = true := decide_eq_true h8
                        go_wp2_with fail
                        refine HP.out.mono ?_
                        rintro e w2 ⟨hb2, -, rfl⟩
                        go_wp2
                        go_ret
                        exact ⟨rfl, tb.trans (hb2.mono hsz)⟩
                      · have k5 : decide ((l : Int) + (j : Int) ≤ 8) = false := decide_eq_false (by omega)
                        have k6 : decide ((8 : Int) < (l : Int)) = false := decide_eq_false (by omega)
                        have k7 : decide (8 < l) = false := decide_eq_false (by omega)
                        have hss := HSz.out
                        have v1 : IntKind.i64.wrap (8 - (l : Int)) = 8 - (l : Int) := w64 rfl (by omega) (by omega)
                        have v2 : IntKind.i64.wrap (2 * (8 - (l : Int))) = 2 * (8 - (l : Int)) := w64 rfl (by omega) (by omega)
                        have v3 : IntKind.i64.wrap ((S.size : Int) + 1 + 2 * (8 - (l : Int))) = (S.size : Int) + 1 + 2 * (8 - (l : Int)) := w64 rfl (by omega) (by omega)
                        have v4 : IntKind.i64.wrap ((S.size : Int) + 1 + 2 * (8 - (l : Int)) + 1) = (S.size : Int) + 1 + 2 * (8 - (l : Int)) + 1 := w64 rfl (by omega) (by omega)
                        have v5 : ((2 * (l : Int) + 1 + 2 * (8 - (l : Int)) + 1) == ((S.size : Int) + 1 + 2 * (8 - (l : Int)) + 1)) = true := beq_iff_eq.2 (by omega)
                        generalize 2 * (l : Int) + 1 + 2 * (8 - (l : Int)) + 1 = V at *
                        clear hss h8 h9
                        go_wp2_with fail
                        refine HP.out.mono ?_
                        rintro e w2 ⟨hb2, -, rfl⟩
                        go_wp2
                        go_ret
                        exact ⟨rfl, tb.trans (hb2.mono hsz)⟩
end Go.Proofs.YtgimgkjggaijoaaGreatDoor
