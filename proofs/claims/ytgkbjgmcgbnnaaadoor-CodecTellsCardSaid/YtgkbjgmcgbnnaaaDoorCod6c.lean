/- Walks: the program's codec: Qp. -/
import Derived.Test.YtgkbjgmcgbnnaaaDoorCod6b
import Derived.Deep.DeepCutAuto
import Derived.Deep.CutBlock
namespace Go.Proofs.YtgkbjgmcgbnnaaaDoor
open Go.RowKit Pk C6 Hx

theorem blankidx (n : Int) (h0 : 0 ≤ n) (h1 : n < 256) : (Lib.indexByte [32, 9] (b8 n) < 0) ↔ (n ≠ 32 ∧ n ≠ 9) := by
  have e : ∀ m : Nat, m < 256 → ((Lib.indexByte [32, 9] (b8 (m : Int)) < 0) ↔ ((m : Int) ≠ 32 ∧ (m : Int) ≠ 9)) := by decide +kernel
  have := e n.toNat (by omega)
  rwa [Int.toNat_of_nonneg h0] at this
theorem seenB_iff (n : Int) : seenB n = true ↔ (32 < n ∧ n < 127 ∧ n ≠ 61) := by
  unfold seenB; simp [Bool.and_eq_true, and_assoc]
theorem qpc_seen {c : UInt8} {last : Bool} (h : seenB c.toNat = true) : qpc c last = [c] := by
  rw [seenB_iff] at h
  unfold qpc; rw [if_neg (by omega)]
theorem qpc_blank {c : UInt8} (h : ¬ ((c.toNat : Int) ≠ 32 ∧ (c.toNat : Int) ≠ 9)) : qpc c false = [c] := by
  unfold qpc; rw [if_neg (by simp; omega)]
theorem qpc_esc {c : UInt8} {last : Bool} (h : seenB c.toNat = false) (h2 : ((c.toNat : Int) ≠ 32 ∧ (c.toNat : Int) ≠ 9) ∨ last = true) : qpc c last = escC c := by
  have h' : ¬ seenB c.toNat = true := by simp [h]
  rw [seenB_iff] at h'
  unfold qpc; rw [if_pos ⟨by omega, h2⟩]
theorem tl_empty (s : ByteArray) (k : Nat) : (tl s k).isEmpty = decide (¬ k < s.size) := by
  by_cases h : k < s.size
  · rw [tl_cons s k h]; simp [h]
  · rw [tl_end s k (by omega)]; simp [h]
theorem lp_step {A : ByteArray} {k : Nat} {acc Y X p : List UInt8} {n : Int} (h : Hid (acc ++ lp n (tl A k) ++ Y = X)) (hk : k < A.size) (hp : p = qpc A[k] (decide (k + 1 = A.size))) :
    (n + p.length > 75 → Hid (acc ++ [61, 13, 10] ++ p ++ lp p.length (tl A (k + 1)) ++ Y = X)) ∧ (¬ n + p.length > 75 → Hid (acc ++ p ++ lp (n + p.length) (tl A (k + 1)) ++ Y = X)) := by
  have e := h.out
  have he : (tl A (k + 1)).isEmpty = decide (k + 1 = A.size) := by
    rw [tl_empty]; congr 1; apply propext; constructor <;> omega
  rw [tl_cons A k hk, lp, he, ← hp] at e
  constructor
  · intro c; rw [if_pos c] at e; show _ = _; rw [← e]; simp
  · intro c; rw [if_neg c] at e; show _ = _; rw [← e]; simp
theorem lp_end {A : ByteArray} {k : Nat} {acc Y X : List UInt8} {n : Int} (h : Hid (acc ++ lp n (tl A k) ++ Y = X)) (hk : ¬ k < A.size) : Hid (acc ++ Y = X) := by
  have e := h.out
  rw [tl_end A k (by omega)] at e
  show _ = _
  rw [← e]; simp [lp]
theorem ext1 (A : ByteArray) (k : Nat) (h : k < A.size) : (A.extract k (k + 1)).data.toList = [A[k]] := by
  have e : (A.extract k (k + 1)).data.toList = (A.data.toList.drop k).take (k + 1 - k) := by rw [← Lib.extract_toList, Lib.toList_data]
  rw [e, show k + 1 - k = 1 by omega]
  have : A.data.toList.drop k = tl A k := rfl
  rw [this, tl_cons A k h]; rfl

set_option maxHeartbeats 4000000 in
theorem qpP_any (s : ByteArray) (w : World) (m : Int) (hs : s.size ≤ 1000000) (hm : w.cell? ⟨0, 0, none⟩ = some (.int .i64 m)) :
    Calls Tryd.prog 14 #[.string s] w fun e w' => e = .returned (.string ⟨(qpR 0 s.data.toList).toArray⟩) ∧ Below w.heap.size w w' := by
  go_enter Tryd.func14, Tryd.ntmps14
  go_wp2
  go_loopw [0] (fun v wr => ∃ (S : ByteArray) (acc : List UInt8), v = .string S ∧ Bld wr w.heap.size w.heap.size acc ∧ Below w.heap.size w wr ∧ acc.length + 6 * S.size ≤ 6 * s.size ∧ Hid (acc ++ qpR 0 (tl S 0) = qpR 0 (tl s 0))) (fun v _ => match v with | .string S => S.size | _ => 0)
  case atStart => exact ⟨s, [], rfl, Bld.new w, (Below.refl _ _).alloc (Nat.le_refl _) _, by simp, rfl⟩
  case round =>
    obtain ⟨S, acc, rfl, hB, hbel, hal, hrel⟩ := hrel
    have hsz := hbel.size
    have hmr := cell_below hm hbel rfl
    obtain ⟨A, hA, hAl, hAs⟩ := arr_ex (Lib.cut S.data.toList crlf).1
    obtain ⟨R, hR, hRl, hRs⟩ := arr_ex (Lib.cut S.data.toList crlf).2.1
    obtain ⟨more, hmore⟩ : ∃ b, b = (Lib.cut S.data.toList crlf).2.2 := ⟨_, rfl⟩
    have hcut : Calls Tryd.prog 30 #[.string S, .string ⟨#[13, 10]⟩] wr fun e w' => e = .returned (.tuple #[.string A, .string R, .bool more]) ∧ ∃ n, w' = wr.drewN n := by
      rw [hA, hR, hmore]
      exact Tryd.strings_Cut S ⟨#[13, 10]⟩ m wr (by omega) hmr
    have HC := Lib.hid hcut
    have hlen := cut_length crlf (by decide) S.data.toList
    rw [← hmore, ← hAs, ← hRs] at hlen
    have hSs : S.data.toList.length = S.size := rfl
    rw [hSs] at hlen
    have hlen2 : A.size + R.size + (if more = true then 2 else 0) = S.size := hlen
    have hAle : A.size ≤ S.size := by omega
    obtain ⟨Y, hY⟩ : ∃ Y, Y = (if more = true then 13 :: 10 :: qpR 0 (tl R 0) else []) := ⟨_, rfl⟩
    have hin : Hid (acc ++ lp 0 (tl A 0) ++ Y = qpR 0 (tl s 0)) := by
      show _ = _
      rw [← hrel.out, tl_zero S, qpR_cut 0 S.data.toList, tl_zero, hAl, hY, hmore, tl_zero, hRl]; simp
    have HY := Lib.hid hY
    clear hcut hA hAl hAs hR hRl hRs hmore hrel hmr hlen hSs hY
    go_wp2_with (go_at_call 30; refine (HC.out).mono ?_; rintro e w' ⟨rfl, dn, rfl⟩; have hb0 := below_draws' wr dn; have hB0 := hB.below hb0 (Nat.le_refl _); have hz0 := hb0.size; generalize wr.drewN dn = w0 at *)
    go_loopw [7, 19] (fun nv i wi => ∃ (k : Nat) (ac : List UInt8) (n : Int), i = .int .i64 k ∧ nv = .int .i64 n ∧ 0 ≤ n ∧ n ≤ 75 ∧ Bld wi w.heap.size w.heap.size ac ∧ Below w.heap.size w wi ∧ k ≤ A.size ∧ ac.length ≤ 6 * k + acc.length ∧ Hid (ac ++ lp n (tl A k) ++ Y = qpR 0 (tl s 0))) (fun _ i _ => A.size - (intOf i).toNat)
    case atStart => exact ⟨0, acc, 0, rfl, rfl, by omega, by omega, hB0, hbel.trans (hb0.mono hsz), by omega, by omega, hin⟩
    case round =>
      obtain ⟨k, ac, n, rfl, rfl, hn0, hn1, hBi, hbi, hk, hal2, hrel⟩ := hrel
      have hzi := hbi.size
      by_cases hlt : k < A.size
      · have hb := A[k].toNat_lt
        obtain ⟨P, hP, hPl, hPs⟩ := arr_ex (escC A[k])
        have hPs3 : P.size = 3 := hPs
        have hesc : Hid (∀ w, Calls Tryd.prog 34 #[.int .u8 A[k].toNat] w fun e w' => e = .returned (.string P) ∧ Below w.heap.size w w') := by
          intro w
          have := escape_any A[k].toNat w (by omega) (by omega)
          rw [b8_of] at this
          rw [hP]; exact this
        obtain ⟨p, hp⟩ : ∃ p, p = qpc A[k] (decide (k + 1 = A.size)) := ⟨_, rfl⟩
        have hst := lp_step hrel hlt hp
        have hst1 := Lib.hid hst.1
        have hst2 := Lib.hid hst.2
        obtain ⟨z, hz⟩ : ∃ z, z = Lib.indexByte [32, 9] (b8 A[k].toNat) := ⟨_, rfl⟩
        have hib : Hid (∀ w, Calls Tryd.prog 33 #[.string ⟨#[32, 9]⟩, .int .u8 A[k].toNat] w fun e w' => e = .returned (.int .i64 z) ∧ w = w') := by
          intro w; rw [hz]; exact ib_any _ _ w
        have hbl := Lib.hid (blankidx A[k].toNat (by omega) (by omega))
        rw [← hz] at hbl
        obtain ⟨esc, he0⟩ : ∃ b : Bool, b = (!seenB A[k].toNat && (decide (z < 0) || decide (k + 1 = A.size))) := ⟨_, rfl⟩
        have hE := Lib.hid he0
        have hpe : p = if esc = true then escC A[k] else [A[k]] := by
          rw [hp, he0]
          by_cases hs1 : seenB A[k].toNat = true
          · rw [qpc_seen hs1, hs1]; simp
          · have hs2 : seenB A[k].toNat = false := by simpa using hs1
            by_cases hz0 : z < 0
            · rw [qpc_esc hs2 (.inl (hbl.out.1 hz0)), hs2]; simp [hz0]
            · by_cases hl : k + 1 = A.size
              · rw [qpc_esc hs2 (.inr (by simp [hl])), hs2]; simp [hl]
              · rw [show decide (k + 1 = A.size) = false by simp [hl], qpc_blank (fun c => hz0 (hbl.out.2 c)), hs2]; simp [hz0]
        have HP := Lib.hid hpe
        clear hz hp hst hrel hP hPs he0 hpe hbl
        have hPl' := Lib.hid hPl
        clear hPl
        go_upto_region 9 with fail
        have hQ1 := Lib.hid (ext1 A k hlt)
        have hQ2 : (A.extract k (k + 1)).size = 1 := by rw [ByteArray.size_extract]; omega
        generalize A.extract k (k + 1) = Q0 at *
        go_cut [44] (fun v wc => v = .bool esc ∧ wc = wr)
        case first =>
          by_cases hs1 : seenB A[k].toNat = true
          · have he : esc = false := by rw [hE.out, hs1]; rfl
            subst he
            clear hE HP hst1 hst2
            go_wp2_with (first
              | (go_at_call 32; refine (seen_any _ _).mono ?_; rintro e w' ⟨rfl, rfl⟩)
              | (go_at_call 33; refine (hib.out _).mono ?_; rintro e w' ⟨rfl, rfl⟩))
            go_meet
            first | exact ⟨rfl, rfl⟩ | exact ⟨by simp [*], rfl⟩
          · have hs2 : seenB A[k].toNat = false := by simpa using hs1
            clear hs1
            by_cases hz : z < 0
            · have he : esc = true := by rw [hE.out, hs2]; simp [hz]
              subst he
              clear hE HP hst1 hst2
              go_wp2_with (first
                | (go_at_call 32; refine (seen_any _ _).mono ?_; rintro e w' ⟨rfl, rfl⟩)
                | (go_at_call 33; refine (hib.out _).mono ?_; rintro e w' ⟨rfl, rfl⟩))
              go_meet
              first | exact ⟨rfl, rfl⟩ | exact ⟨by simp [*], rfl⟩
            · by_cases hl : k + 1 = A.size
              · have he : esc = true := by rw [hE.out, hs2]; simp [hl]
                have hq : ((k : Int) + 1 == (A.size : Int)) = true := beq_iff_eq.2 (by omega)
                subst he
                clear hE HP hst1 hst2
                go_wp2_with (first
                  | (go_at_call 32; refine (seen_any _ _).mono ?_; rintro e w' ⟨rfl, rfl⟩)
                  | (go_at_call 33; refine (hib.out _).mono ?_; rintro e w' ⟨rfl, rfl⟩))
                go_meet
                first | exact ⟨rfl, rfl⟩ | exact ⟨by simp [*], rfl⟩
              · have he : esc = false := by rw [hE.out, hs2]; simp [hl, hz]
                have hq : ((k : Int) + 1 == (A.size : Int)) = false := beq_eq_false_iff_ne.2 (by omega)
                subst he
                clear hE HP hst1 hst2
                go_wp2_with (first
                  | (go_at_call 32; refine (seen_any _ _).mono ?_; rintro e w' ⟨rfl, rfl⟩)
                  | (go_at_call 33; refine (hib.out _).mono ?_; rintro e w' ⟨rfl, rfl⟩))
                go_meet
                first | exact ⟨rfl, rfl⟩ | exact ⟨by simp [*], rfl⟩
        case rest =>
          obtain ⟨rfl, rfl⟩ := hcut
          clear hE hib
          cases esc with
          | true =>
            have hpp := HP.out
            rw [if_pos rfl] at hpp
            subst hpp
            clear HP hQ1 hQ2
            by_cases hgt : n + 3 > 75
            · have hst := hst1.out (by simp [escC]; omega)
              have HG : 76 ≤ n + 3 := by omega
              clear hst1 hst2 hgt
              go_wp2_with (first
                | (go_at_call 34; refine (hesc.out _).mono ?_; rintro e w' ⟨rfl, hb1⟩; have hB1 := hBi.below hb1 (Nat.le_refl _); have hz1 := hb1.size; have hbx := hbi.trans (hb1.mono hzi))
                | (go_at_call 26; refine (ws _ _ _ _ _ hB2 (by first | omega | (simp; omega)) (by omega)).mono ?_; rintro e w' ⟨rfl, hB3, hb3, -⟩)
                | (go_at_call 26; refine (ws _ _ _ _ _ hB1 (by show ac.length + 3 ≤ _; omega) (by omega)).mono ?_; rintro e w' ⟨rfl, hB2, hb2, -⟩; have hz2 := hb2.size))
              go_roundw
              case rel => exact ⟨k + 1, _, _, by go_num, rfl, by omega, by omega, hB3, (hbx.trans hb2).trans hb3, by omega, by first | omega | (simp; omega), by rw [hPl'.out]; exact hst⟩
              case measure => simp [intOf]; omega
            · have hst := hst2.out (by simp [escC]; omega)
              have HG : n + 3 < 76 := by omega
              clear hst1 hst2 hgt
              go_wp2_with (first
                | (go_at_call 34; refine (hesc.out _).mono ?_; rintro e w' ⟨rfl, hb1⟩; have hB1 := hBi.below hb1 (Nat.le_refl _); have hz1 := hb1.size; have hbx := hbi.trans (hb1.mono hzi))
                | (go_at_call 26; refine (ws _ _ _ _ _ hB1 (by first | omega | (simp; omega)) (by omega)).mono ?_; rintro e w' ⟨rfl, hB3, hb3, -⟩))
              go_roundw
              case rel => exact ⟨k + 1, _, _, by go_num, rfl, by omega, by omega, hB3, hbx.trans hb3, by omega, by first | omega | (simp; omega), by rw [hPl'.out]; exact hst⟩
              case measure => simp [intOf]; omega
          | false =>
            have hpp := HP.out
            rw [if_neg Bool.false_ne_true] at hpp
            subst hpp
            clear HP hesc hPl' hPs3
            by_cases hgt : n + 1 > 75
            · have hst := hst1.out (by simp; omega)
              have HG : 76 ≤ n + 1 := by omega
              clear hst1 hst2 hgt
              go_wp2_with (first
                | (go_at_call 26; refine (ws _ _ _ _ _ hB2 (by first | omega | (simp; omega)) (by omega)).mono ?_; rintro e w' ⟨rfl, hB3, hb3, -⟩)
                | (go_at_call 26; refine (ws _ _ _ _ _ hBi (by show ac.length + 3 ≤ _; omega) (by omega)).mono ?_; rintro e w' ⟨rfl, hB2, hb2, -⟩; have hz2 := hb2.size))
              go_roundw
              case rel => exact ⟨k + 1, _, _, by go_num, rfl, by omega, by omega, hB3, (hbi.trans hb2).trans hb3, by omega, by first | omega | (simp; omega), by rw [hQ1.out]; exact hst⟩
              case measure => simp [intOf]; omega
            · have hst := hst2.out (by simp; omega)
              have HG : n + 1 < 76 := by omega
              clear hst1 hst2 hgt
              go_wp2_with (first
                | (go_at_call 26; refine (ws _ _ _ _ _ hBi (by first | omega | (simp; omega)) (by omega)).mono ?_; rintro e w' ⟨rfl, hB3, hb3, -⟩))
              go_roundw
              case rel => exact ⟨k + 1, _, _, by go_num, rfl, by omega, by omega, hB3, hbi.trans hb3, by omega, by first | omega | (simp; omega), by rw [hQ1.out]; exact hst⟩
              case measure => simp [intOf]; omega
      · have H := lp_end hrel hlt
        clear hrel
        cases more with
        | false =>
          have HE : ac = qpR 0 s.data.toList := by
            have e := H.out
            rw [HY.out] at e
            rw [tl_zero s] at e
            simpa using e
          have HE := Lib.hid HE
          go_wp2_with (go_at_call 27; refine (bstr _ _ _ _ hBi (by omega)).mono ?_; rintro e w' ⟨rfl, -, hb2, -⟩)
          go_ret
          rw [← HE.out]
          exact ⟨rfl, hbi.trans hb2⟩
        | true =>
          have HN : Hid (ac ++ [13, 10] ++ qpR 0 (tl R 0) = qpR 0 (tl s 0)) := by
            show _ = _
            rw [← H.out, HY.out]; simp
          have hl2 : A.size + R.size + 2 = S.size := hlen2
          go_wp2_with (go_at_call 26; refine (ws _ _ _ _ _ hBi (by show ac.length + 2 ≤ _; omega) (by omega)).mono ?_; rintro e w' ⟨rfl, hB2, hb2, -⟩; have hz2 := hb2.size)
          go_roundw
          case rel => exact ⟨R, _, rfl, hB2, hbi.trans hb2, by simp; omega, HN⟩
          case measure => show R.size < S.size; omega
end Go.Proofs.YtgkbjgmcgbnnaaaDoor
