/- Walks of the reference pouchref30: Plain. Printed by gen30j.py. -/
import Derived.Test.YtmpggcjfmcigmaaDoorR30
import Derived.Test.YtmpggcjfmcigmaaDoorR04f
import Derived.Test.YtmpggcjfmcigmaaDoorSub6
namespace Go.Proofs.YtmpggcjfmcigmaaDoor
open Go.RowKit Pk U8 Su Fo

def LastB (acc : List UInt8) (b : Bool) : Prop := b = true ↔ acc.getLast? = some 32
theorem LastB.snoc32 (acc : List UInt8) : LastB (acc ++ [32]) true := by unfold LastB; simp
theorem LastB.snoc {acc : List UInt8} {c : UInt8} (h : blk c = false) : LastB (acc ++ [c]) false := by
  unfold LastB
  simp only [List.getLast?_append, List.getLast?_singleton, Option.some_or]
  constructor
  · intro h; cases h
  · intro e; injection e with e; subst e; exact absurd h (by decide)
theorem LastB.at {acc : List UInt8} {b : Bool} (h : LastB acc b) (h0 : acc.length - 1 < acc.length) : ((acc[acc.length - 1].toNat : Int) == 32) = b := by
  unfold LastB at h
  rw [List.getLast?_eq_getElem?, List.getElem?_eq_getElem h0] at h
  cases b with
  | true =>
    have := h.1 rfl
    injection this with e
    rw [e]; rfl
  | false =>
    refine beq_eq_false_iff_ne.2 fun e => ?_
    have e2 : acc[acc.length - 1] = 32 := UInt8.toNat_inj.1 (by show _ = 32; omega)
    have := h.2 (by rw [e2])
    cases this
theorem blk_cases {c : UInt8} (h : blk c = true) : c = 9 ∨ c = 10 ∨ c = 13 ∨ c = 32 := by
  unfold blk at h
  simp only [Bool.or_eq_true, beq_iff_eq] at h
  rcases h with ((h | h) | h) | h <;> simp [h]
theorem blk_no {c : UInt8} (h : blk c = false) : ((c.toNat : Int) == 9) = false ∧ ((c.toNat : Int) == 10) = false ∧ ((c.toNat : Int) == 13) = false ∧ ((c.toNat : Int) == 32) = false := by
  have g : ∀ n : Nat, n < 256 → blk (UInt8.ofNat n) = true → c = UInt8.ofNat n → False := fun n _ h1 h2 => by rw [h2] at h; rw [h] at h1; cases h1
  have f : ∀ n : Nat, n < 256 → blk (UInt8.ofNat n) = true → ((c.toNat : Int) == (n : Int)) = false := fun n hn h1 => beq_eq_false_iff_ne.2 fun e => g n hn h1 (by apply UInt8.toNat_inj.1; simp; omega)
  exact ⟨f 9 (by decide) (by decide), f 10 (by decide) (by decide), f 13 (by decide) (by decide), f 32 (by decide) (by decide)⟩
set_option maxHeartbeats 4000000 in
set_option maxRecDepth 100000 in
theorem plainR_any (s : ByteArray) (w : World) (hs : s.size ≤ 3000000) : Calls Tryd.prog 13 #[.string s] w fun e w' => e = .returned (.string ⟨(plain s.data.toList).toArray⟩) ∧ Below w.heap.size w w' := by
  have hr := repairR_any s w (by omega)
  obtain ⟨P, hP, hPl, hPs⟩ := arrS (repairL s.data.toList)
  rw [← hP] at hr
  have hPn : P.size ≤ 9000000 := by
    have := repairL_length s.data.toList
    have hl : s.data.toList.length = s.size := rfl
    omega
  have hpl : plain s.data.toList = col false (tl P 0) := by unfold plain; rw [tl_zero, hPl]
  have HPL := Lib.hid hpl
  have HR := Lib.hid hr
  clear hr hP hPl hPs hpl
  go_enter Tryd.func13, Tryd.ntmps13
  go_wp2_with (go_at_call 22; (with_reducible refine (HR.out).mono ?_); rintro e w1 ⟨rfl, hb1⟩)
  go_loopw [4, 5] (fun v i wr => ∃ (k : Nat) (b : Bool) (acc : List UInt8), i = .int .i64 k ∧ ownsB wr w1.heap.size 5 v acc ∧ Below w1.heap.size w1 wr ∧ k ≤ P.size ∧ acc.length ≤ k ∧ LastB acc b ∧ Hid (acc ++ col b (tl P k) = plain s.data.toList)) (fun _ i _ => P.size - (intOf i).toNat)
  case atStart => exact ⟨0, false, [], rfl, ownsB.nil _ _ _, Below.refl _ _, by omega, by simp, by unfold LastB; simp, HPL.out.symm⟩
  case round =>
    obtain ⟨k, b, acc, rfl, hown, hbel, hk, hal, hlast, hrel⟩ := hrel
    have hsz := hbel.size
    by_cases hlt : k < P.size
    · obtain ⟨s1, s2, s3⟩ := col_step hrel hlt
      cases hb : blk P[k] with
      | false =>
        have hd := s1 hb
        obtain ⟨q1, q2, q3, q4⟩ := blk_no hb
        have hl2 := LastB.snoc (acc := acc) hb
        have HL := Lib.hid hl2
        clear s1 s2 s3 hrel hb hlast hl2
        go_wp2_with (at_builtin; refine append_bytes _ rfl (.tmp 44) (.tmp 46) bsl rfl w1.heap.size _ _ rfl (hown.alloc _) ⟨_, 0, none⟩ 1 1 [_] rfl rfl (cells_new _ _ _) (by first | omega | (simp; done) | (simp; omega)) (by first | omega | (simp; done) | (simp; omega)) ?_; intro v2 w2 hown2 hg2; have hb2 := Below_grown (hbel.alloc hsz _) (hown.alloc _) hg2 (by first | omega | (simp; done) | (simp; omega)); have hz2 := hb2.size; clear hg2)
        go_roundw
        case rel => exact ⟨k + 1, false, _, by go_num, hown2, hb2, by omega, by first | omega | (simp; done) | (simp; omega), HL.out, hd⟩
        case measure => simp [intOf]; omega
      | true =>
        have hq : ((P[k].toNat : Int) == 9) = true ∨ (((P[k].toNat : Int) == 9) = false ∧ ((P[k].toNat : Int) == 10) = true) ∨ (((P[k].toNat : Int) == 9) = false ∧ ((P[k].toNat : Int) == 10) = false ∧ ((P[k].toNat : Int) == 13) = true) ∨ P[k].toNat = 32 := by
          rcases blk_cases hb with e | e | e | e <;> rw [e] <;> decide
        have HS2 := Lib.hid fun h => s2 hb h
        have HS3 := Lib.hid fun h => s3 hb h
        have HL := Lib.hid hlast
        clear s1 s2 s3 hrel hb hlast
        rcases hq with q1 | ⟨q1, q2⟩ | ⟨q1, q2, q3⟩ | q1
        · rcases hown.form with ⟨rfl, rfl⟩ | ⟨g, cap, rfl, hBg, hlc, hcm, hcells⟩
          · have hbf : b = false := by cases b with | false => rfl | true => exact absurd (HL.out.1 rfl) (by simp)
            have hd := HS2.out hbf
            clear HS2 HS3 HL
            go_wp2_with (at_builtin; refine append_bytes _ rfl (.tmp 44) (.tmp 46) bsl rfl w1.heap.size _ _ rfl (hown.alloc _) ⟨_, 0, none⟩ 1 1 [32] rfl rfl (cells_new _ _ _) (by first | omega | (simp; done) | (simp; omega)) (by first | omega | (simp; done) | (simp; omega)) ?_; intro v2 w2 hown2 hg2; have hb2 := Below_grown (hbel.alloc hsz _) (hown.alloc _) hg2 (by first | omega | (simp; done) | (simp; omega)); have hz2 := hb2.size; clear hg2)
            go_roundw
            case rel => exact ⟨k + 1, true, _, by go_num, hown2, hb2, by omega, by first | omega | (simp; done) | (simp; omega), LastB.snoc32 _, hd⟩
            case measure => simp [intOf]; omega
          · by_cases h0 : 0 < acc.length
            · have hcl := hcells (acc.length - 1) (by omega)
              have hq32 := HL.out.at (by omega)
              obtain ⟨d, hd0⟩ : ∃ d, d = acc[acc.length - 1] := ⟨_, rfl⟩
              rw [← hd0] at hcl hq32
              have HLT := HL.out
              clear hcells HL hd0
              cases b with
              | false =>
                have hd := HS2.out rfl
                clear HS2 HS3 HLT
                go_wp2_with (at_builtin; refine append_bytes _ rfl (.tmp 44) (.tmp 46) bsl rfl w1.heap.size _ _ rfl (hown.alloc _) ⟨_, 0, none⟩ 1 1 [32] rfl rfl (cells_new _ _ _) (by first | omega | (simp; done) | (simp; omega)) (by first | omega | (simp; done) | (simp; omega)) ?_; intro v2 w2 hown2 hg2; have hb2 := Below_grown (hbel.alloc hsz _) (hown.alloc _) hg2 (by first | omega | (simp; done) | (simp; omega)); have hz2 := hb2.size; clear hg2)
                go_roundw
                case rel => exact ⟨k + 1, true, _, by go_num, hown2, hb2, by omega, by first | omega | (simp; done) | (simp; omega), LastB.snoc32 _, hd⟩
                case measure => simp [intOf]; omega
              | true =>
                have hd := HS3.out rfl
                have HL2 := Lib.hid HLT
                clear HS2 HS3 HLT
                go_wp2
                go_roundw
                case rel => exact ⟨k + 1, true, acc, by go_num, hown, hbel, by omega, by omega, HL2.out, hd⟩
                case measure => simp [intOf]; omega
            · have hz : acc = [] := List.eq_nil_of_length_eq_zero (by omega)
              subst hz
              have hbf : b = false := by cases b with | false => rfl | true => exact absurd (HL.out.1 rfl) (by simp)
              have hd := HS2.out hbf
              clear HS2 HS3 HL hcells
              go_wp2_with (at_builtin; refine append_bytes _ rfl (.tmp 44) (.tmp 46) bsl rfl w1.heap.size _ _ rfl (hown.alloc _) ⟨_, 0, none⟩ 1 1 [32] rfl rfl (cells_new _ _ _) (by first | omega | (simp; done) | (simp; omega)) (by first | omega | (simp; done) | (simp; omega)) ?_; intro v2 w2 hown2 hg2; have hb2 := Below_grown (hbel.alloc hsz _) (hown.alloc _) hg2 (by first | omega | (simp; done) | (simp; omega)); have hz2 := hb2.size; clear hg2)
              go_roundw
              case rel => exact ⟨k + 1, true, _, by go_num, hown2, hb2, by omega, by first | omega | (simp; done) | (simp; omega), LastB.snoc32 _, hd⟩
              case measure => simp [intOf]; omega
        · rcases hown.form with ⟨rfl, rfl⟩ | ⟨g, cap, rfl, hBg, hlc, hcm, hcells⟩
          · have hbf : b = false := by cases b with | false => rfl | true => exact absurd (HL.out.1 rfl) (by simp)
            have hd := HS2.out hbf
            clear HS2 HS3 HL
            go_wp2_with (at_builtin; refine append_bytes _ rfl (.tmp 44) (.tmp 46) bsl rfl w1.heap.size _ _ rfl (hown.alloc _) ⟨_, 0, none⟩ 1 1 [32] rfl rfl (cells_new _ _ _) (by first | omega | (simp; done) | (simp; omega)) (by first | omega | (simp; done) | (simp; omega)) ?_; intro v2 w2 hown2 hg2; have hb2 := Below_grown (hbel.alloc hsz _) (hown.alloc _) hg2 (by first | omega | (simp; done) | (simp; omega)); have hz2 := hb2.size; clear hg2)
            go_roundw
            case rel => exact ⟨k + 1, true, _, by go_num, hown2, hb2, by omega, by first | omega | (simp; done) | (simp; omega), LastB.snoc32 _, hd⟩
            case measure => simp [intOf]; omega
          · by_cases h0 : 0 < acc.length
            · have hcl := hcells (acc.length - 1) (by omega)
              have hq32 := HL.out.at (by omega)
              obtain ⟨d, hd0⟩ : ∃ d, d = acc[acc.length - 1] := ⟨_, rfl⟩
              rw [← hd0] at hcl hq32
              have HLT := HL.out
              clear hcells HL hd0
              cases b with
              | false =>
                have hd := HS2.out rfl
                clear HS2 HS3 HLT
                go_wp2_with (at_builtin; refine append_bytes _ rfl (.tmp 44) (.tmp 46) bsl rfl w1.heap.size _ _ rfl (hown.alloc _) ⟨_, 0, none⟩ 1 1 [32] rfl rfl (cells_new _ _ _) (by first | omega | (simp; done) | (simp; omega)) (by first | omega | (simp; done) | (simp; omega)) ?_; intro v2 w2 hown2 hg2; have hb2 := Below_grown (hbel.alloc hsz _) (hown.alloc _) hg2 (by first | omega | (simp; done) | (simp; omega)); have hz2 := hb2.size; clear hg2)
                go_roundw
                case rel => exact ⟨k + 1, true, _, by go_num, hown2, hb2, by omega, by first | omega | (simp; done) | (simp; omega), LastB.snoc32 _, hd⟩
                case measure => simp [intOf]; omega
              | true =>
                have hd := HS3.out rfl
                have HL2 := Lib.hid HLT
                clear HS2 HS3 HLT
                go_wp2
                go_roundw
                case rel => exact ⟨k + 1, true, acc, by go_num, hown, hbel, by omega, by omega, HL2.out, hd⟩
                case measure => simp [intOf]; omega
            · have hz : acc = [] := List.eq_nil_of_length_eq_zero (by omega)
              subst hz
              have hbf : b = false := by cases b with | false => rfl | true => exact absurd (HL.out.1 rfl) (by simp)
              have hd := HS2.out hbf
              clear HS2 HS3 HL hcells
              go_wp2_with (at_builtin; refine append_bytes _ rfl (.tmp 44) (.tmp 46) bsl rfl w1.heap.size _ _ rfl (hown.alloc _) ⟨_, 0, none⟩ 1 1 [32] rfl rfl (cells_new _ _ _) (by first | omega | (simp; done) | (simp; omega)) (by first | omega | (simp; done) | (simp; omega)) ?_; intro v2 w2 hown2 hg2; have hb2 := Below_grown (hbel.alloc hsz _) (hown.alloc _) hg2 (by first | omega | (simp; done) | (simp; omega)); have hz2 := hb2.size; clear hg2)
              go_roundw
              case rel => exact ⟨k + 1, true, _, by go_num, hown2, hb2, by omega, by first | omega | (simp; done) | (simp; omega), LastB.snoc32 _, hd⟩
              case measure => simp [intOf]; omega
        · rcases hown.form with ⟨rfl, rfl⟩ | ⟨g, cap, rfl, hBg, hlc, hcm, hcells⟩
          · have hbf : b = false := by cases b with | false => rfl | true => exact absurd (HL.out.1 rfl) (by simp)
            have hd := HS2.out hbf
            clear HS2 HS3 HL
            go_wp2_with (at_builtin; refine append_bytes _ rfl (.tmp 44) (.tmp 46) bsl rfl w1.heap.size _ _ rfl (hown.alloc _) ⟨_, 0, none⟩ 1 1 [32] rfl rfl (cells_new _ _ _) (by first | omega | (simp; done) | (simp; omega)) (by first | omega | (simp; done) | (simp; omega)) ?_; intro v2 w2 hown2 hg2; have hb2 := Below_grown (hbel.alloc hsz _) (hown.alloc _) hg2 (by first | omega | (simp; done) | (simp; omega)); have hz2 := hb2.size; clear hg2)
            go_roundw
            case rel => exact ⟨k + 1, true, _, by go_num, hown2, hb2, by omega, by first | omega | (simp; done) | (simp; omega), LastB.snoc32 _, hd⟩
            case measure => simp [intOf]; omega
          · by_cases h0 : 0 < acc.length
            · have hcl := hcells (acc.length - 1) (by omega)
              have hq32 := HL.out.at (by omega)
              obtain ⟨d, hd0⟩ : ∃ d, d = acc[acc.length - 1] := ⟨_, rfl⟩
              rw [← hd0] at hcl hq32
              have HLT := HL.out
              clear hcells HL hd0
              cases b with
              | false =>
                have hd := HS2.out rfl
                clear HS2 HS3 HLT
                go_wp2_with (at_builtin; refine append_bytes _ rfl (.tmp 44) (.tmp 46) bsl rfl w1.heap.size _ _ rfl (hown.alloc _) ⟨_, 0, none⟩ 1 1 [32] rfl rfl (cells_new _ _ _) (by first | omega | (simp; done) | (simp; omega)) (by first | omega | (simp; done) | (simp; omega)) ?_; intro v2 w2 hown2 hg2; have hb2 := Below_grown (hbel.alloc hsz _) (hown.alloc _) hg2 (by first | omega | (simp; done) | (simp; omega)); have hz2 := hb2.size; clear hg2)
                go_roundw
                case rel => exact ⟨k + 1, true, _, by go_num, hown2, hb2, by omega, by first | omega | (simp; done) | (simp; omega), LastB.snoc32 _, hd⟩
                case measure => simp [intOf]; omega
              | true =>
                have hd := HS3.out rfl
                have HL2 := Lib.hid HLT
                clear HS2 HS3 HLT
                go_wp2
                go_roundw
                case rel => exact ⟨k + 1, true, acc, by go_num, hown, hbel, by omega, by omega, HL2.out, hd⟩
                case measure => simp [intOf]; omega
            · have hz : acc = [] := List.eq_nil_of_length_eq_zero (by omega)
              subst hz
              have hbf : b = false := by cases b with | false => rfl | true => exact absurd (HL.out.1 rfl) (by simp)
              have hd := HS2.out hbf
              clear HS2 HS3 HL hcells
              go_wp2_with (at_builtin; refine append_bytes _ rfl (.tmp 44) (.tmp 46) bsl rfl w1.heap.size _ _ rfl (hown.alloc _) ⟨_, 0, none⟩ 1 1 [32] rfl rfl (cells_new _ _ _) (by first | omega | (simp; done) | (simp; omega)) (by first | omega | (simp; done) | (simp; omega)) ?_; intro v2 w2 hown2 hg2; have hb2 := Below_grown (hbel.alloc hsz _) (hown.alloc _) hg2 (by first | omega | (simp; done) | (simp; omega)); have hz2 := hb2.size; clear hg2)
              go_roundw
              case rel => exact ⟨k + 1, true, _, by go_num, hown2, hb2, by omega, by first | omega | (simp; done) | (simp; omega), LastB.snoc32 _, hd⟩
              case measure => simp [intOf]; omega
        · rcases hown.form with ⟨rfl, rfl⟩ | ⟨g, cap, rfl, hBg, hlc, hcm, hcells⟩
          · have hbf : b = false := by cases b with | false => rfl | true => exact absurd (HL.out.1 rfl) (by simp)
            have hd := HS2.out hbf
            clear HS2 HS3 HL
            go_wp2_with (at_builtin; refine append_bytes _ rfl (.tmp 44) (.tmp 46) bsl rfl w1.heap.size _ _ rfl (hown.alloc _) ⟨_, 0, none⟩ 1 1 [32] rfl rfl (cells_new _ _ _) (by first | omega | (simp; done) | (simp; omega)) (by first | omega | (simp; done) | (simp; omega)) ?_; intro v2 w2 hown2 hg2; have hb2 := Below_grown (hbel.alloc hsz _) (hown.alloc _) hg2 (by first | omega | (simp; done) | (simp; omega)); have hz2 := hb2.size; clear hg2)
            go_roundw
            case rel => exact ⟨k + 1, true, _, by go_num, hown2, hb2, by omega, by first | omega | (simp; done) | (simp; omega), LastB.snoc32 _, hd⟩
            case measure => simp [intOf]; omega
          · by_cases h0 : 0 < acc.length
            · have hcl := hcells (acc.length - 1) (by omega)
              have hq32 := HL.out.at (by omega)
              obtain ⟨d, hd0⟩ : ∃ d, d = acc[acc.length - 1] := ⟨_, rfl⟩
              rw [← hd0] at hcl hq32
              have HLT := HL.out
              clear hcells HL hd0
              cases b with
              | false =>
                have hd := HS2.out rfl
                clear HS2 HS3 HLT
                go_wp2_with (at_builtin; refine append_bytes _ rfl (.tmp 44) (.tmp 46) bsl rfl w1.heap.size _ _ rfl (hown.alloc _) ⟨_, 0, none⟩ 1 1 [32] rfl rfl (cells_new _ _ _) (by first | omega | (simp; done) | (simp; omega)) (by first | omega | (simp; done) | (simp; omega)) ?_; intro v2 w2 hown2 hg2; have hb2 := Below_grown (hbel.alloc hsz _) (hown.alloc _) hg2 (by first | omega | (simp; done) | (simp; omega)); have hz2 := hb2.size; clear hg2)
                go_roundw
                case rel => exact ⟨k + 1, true, _, by go_num, hown2, hb2, by omega, by first | omega | (simp; done) | (simp; omega), LastB.snoc32 _, hd⟩
                case measure => simp [intOf]; omega
              | true =>
                have hd := HS3.out rfl
                have HL2 := Lib.hid HLT
                clear HS2 HS3 HLT
                go_wp2
                go_roundw
                case rel => exact ⟨k + 1, true, acc, by go_num, hown, hbel, by omega, by omega, HL2.out, hd⟩
                case measure => simp [intOf]; omega
            · have hz : acc = [] := List.eq_nil_of_length_eq_zero (by omega)
              subst hz
              have hbf : b = false := by cases b with | false => rfl | true => exact absurd (HL.out.1 rfl) (by simp)
              have hd := HS2.out hbf
              clear HS2 HS3 HL hcells
              go_wp2_with (at_builtin; refine append_bytes _ rfl (.tmp 44) (.tmp 46) bsl rfl w1.heap.size _ _ rfl (hown.alloc _) ⟨_, 0, none⟩ 1 1 [32] rfl rfl (cells_new _ _ _) (by first | omega | (simp; done) | (simp; omega)) (by first | omega | (simp; done) | (simp; omega)) ?_; intro v2 w2 hown2 hg2; have hb2 := Below_grown (hbel.alloc hsz _) (hown.alloc _) hg2 (by first | omega | (simp; done) | (simp; omega)); have hz2 := hb2.size; clear hg2)
              go_roundw
              case rel => exact ⟨k + 1, true, _, by go_num, hown2, hb2, by omega, by first | omega | (simp; done) | (simp; omega), LastB.snoc32 _, hd⟩
              case measure => simp [intOf]; omega
    · have hfin := Lib.hid (col_end hrel hlt)
      have hcv := run_string_owned (P := Tryd.prog) (ts := 9) bsl04 Tryd.underlying9 hown
      clear hrel
      go_wp2
      go_ret
      exact ⟨congrArg (fun l : List UInt8 => Ending.returned (.string ⟨l.toArray⟩)) hfin.out, hb1.trans (hbel.mono hb1.size)⟩
end Go.Proofs.YtmpggcjfmcigmaaDoor
