/- Walk: the law CodecLoose. -/
import Derived.Test.YtgkbjgmcgbnnaaaDoorPlainL6
import Derived.Test.YtgkbjgmcgbnnaaaDoorPlain6e
import Derived.Test.YtgkbjgmcgbnnaaaDoorRef6b
import Derived.BigQuiet
namespace Go.Proofs.YtgkbjgmcgbnnaaaDoor
open Go.RowKit Pk C6 Hx

theorem junk_step {s : ByteArray} {k : Nat} {acc X : List UInt8} (h : Hid (acc ++ junk (tl s k) = X)) (hk : k < s.size) :
    ((valR s[k] < 0 ∧ s[k] ≠ 61) → Hid (acc ++ [s[k]] ++ junk (tl s (k + 1)) = X)) ∧ (¬ (valR s[k] < 0 ∧ s[k] ≠ 61) → Hid (acc ++ junk (tl s (k + 1)) = X)) := by
  have e := h.out
  rw [tl_cons s k hk, junk] at e
  constructor
  · intro c; rw [if_pos c] at e; show _ = _; rw [← e]; simp
  · intro c; rw [if_neg c] at e; exact e
theorem junk_end {s : ByteArray} {k : Nat} {acc X : List UInt8} (h : Hid (acc ++ junk (tl s k) = X)) (hk : ¬ k < s.size) : acc = X := by
  have e := h.out
  rw [tl_end s k (by omega)] at e
  simpa [junk] using e

theorem ext_list (x : ByteArray) (i j : Nat) : (x.extract i j).data.toList = (x.data.toList.drop i).take (j - i) := by rw [← Lib.extract_toList, Lib.toList_data]
theorem ext_one (L J B : ByteArray) (k : Nat) (h : k < B.size) : (L ++ J ++ B.extract k (k + 1)).data.toList = L.data.toList ++ J.data.toList ++ [B[k]] := by
  rw [app_list, app_list, ext_list, show k + 1 - k = 1 by omega]
  congr 1
  have := tl_cons B k h
  unfold tl at this
  rw [this]; rfl

set_option maxHeartbeats 4000000 in
set_option maxRecDepth 100000 in
theorem loose_any (s bt bh : ByteArray) (w : World) (m : Int) (hm : w.cell? ⟨0, 0, none⟩ = some (.int .i64 m)) : Calls Tryd.prog 6 #[.string s, .string bt, .string bh] w fun e w' => e = .returned (.bool true) ∧ Below w.heap.size w w' := by
  by_cases hsz : s.size ≤ 10000 ∧ bh.size ≤ 10000 ∧ bt.size ≤ 100
  · obtain ⟨hs, hh, hbt⟩ := hsz
    go_enter Tryd.func6, Tryd.ntmps6
    go_wp2_with (first
      | (go_at_call 8; refine (small_any _ m hm).mono ?_; rintro e w1 ⟨rfl, hb1⟩; have z1 := hb1.size)
      | (go_at_call 9; refine (few_any _ _).mono ?_; rintro e w' ⟨rfl, rfl⟩))
    go_loopw [8, 9] (fun v i wr => ∃ (k : Nat) (acc : List UInt8), i = .int .i64 k ∧ ownsB wr w.heap.size 5 v acc ∧ Below w.heap.size w wr ∧ k ≤ bt.size ∧ acc.length ≤ k ∧ Hid (acc ++ junk (tl bt k) = junk (tl bt 0))) (fun _ i _ => bt.size - (intOf i).toNat)
    case atStart => exact ⟨0, [], rfl, ownsB.nil _ _ _, hb1, by omega, by simp, rfl⟩
    case round =>
      obtain ⟨k, acc, rfl, hown, hbel, hk, hal, hrel⟩ := hrel
      have hsz := hbel.size
      by_cases hlt : k < bt.size
      · have hb := bt[k].toNat_lt
        have hst := junk_step hrel hlt
        clear hrel
        by_cases h1 : valR bt[k] < 0
        · by_cases h2 : bt[k] = 61
          · have q1 : ((bt[k].toNat : Int) != 61) = false := by rw [h2]; rfl
            have hst' := hst.2 (fun c => c.2 h2)
            clear hst h2
            go_wp2_with (go_at_call 23; refine (value_any _ _).mono ?_; rintro e w' ⟨rfl, rfl⟩)
            go_roundw
            case rel => exact ⟨k + 1, acc, by go_num, hown, hbel, by omega, by omega, hst'⟩
            case measure => simp [intOf]; omega
          · have q1 : ((bt[k].toNat : Int) != 61) = true := (ne_b (v := 61)).2 h2
            have hst' := hst.1 ⟨h1, h2⟩
            clear hst h2
            go_wp2_with (first
              | (go_at_call 23; refine (value_any _ _).mono ?_; rintro e w' ⟨rfl, rfl⟩)
              | (at_builtin; refine append_bytes _ rfl (.tmp 45) (.tmp 49) bslU rfl w.heap.size _ _ rfl (hown.alloc _) ⟨_, 0, none⟩ 1 1 [bt[k]] rfl rfl (cells_new _ _ _) (by first | omega | (simp; done) | (simp; omega)) (by first | omega | (simp; done) | (simp; omega)) ?_; intro v1 w1 hown1 hg1; have hb1 := Below_grown (hbel.alloc hsz _) (hown.alloc _) hg1 (by first | omega | (simp; done) | (simp; omega)); have hz1 := hb1.size; clear hg1))
            go_roundw
            case rel => exact ⟨k + 1, _, by go_num, hown1, hb1, by omega, by simp; omega, hst'⟩
            case measure => simp [intOf]; omega
        · have hst' := hst.2 (fun c => h1 c.1)
          clear hst
          go_wp2_with (go_at_call 23; refine (value_any _ _).mono ?_; rintro e w' ⟨rfl, rfl⟩)
          go_roundw
          case rel => exact ⟨k + 1, acc, by go_num, hown, hbel, by omega, by omega, hst'⟩
          case measure => simp [intOf]; omega
      · have hacc : acc = junk bt.data.toList := by rw [junk_end hrel hlt, tl_zero]
        have hjk : Junk acc := by rw [hacc]; exact junk_Junk _
        have haccl : acc.length ≤ 100 := by omega
        obtain ⟨J, hJ, hJl, hJs⟩ := arr_ex acc
        obtain ⟨B, hB, hBl, hBs⟩ := arr_ex (b64R s.data.toList)
        have hl : s.data.toList.length = s.size := rfl
        have l1 : B.size ≤ 200000 := by
          have := brk_length (sgR s.data.toList) 0
          have := sgR_length_le s.data.toList
          unfold b64R at hBs; omega
        have hb64 : Hid (∀ w, Calls Tryd.prog 10 #[.string s] w fun e w' => e = .returned (.string B) ∧ Below w.heap.size w w') := fun w => by rw [hB]; exact b64P_any s w (by omega)
        have hun : ∀ (X : ByteArray), X.size ≤ 1000000 → unB64R X.data.toList = unB64R B.data.toList → ∀ w, w.cell? ⟨0, 0, none⟩ = some (.int .i64 m) → Calls Tryd.prog 12 #[.string X] w fun e w' => e = .returned (.string s) ∧ Below w.heap.size w w' := by
          intro X hX hR w hm
          have := unB64P_any X w m (by omega) hm
          rw [hR, hBl, unB64_b64, str_of _ s rfl] at this
          exact this
        have HUN := Lib.hid hun
        have HJ := Lib.hid hjk
        have hJ0 : J.size ≤ 100 := by omega
        clear hrel hacc hB hBs hun hjk hl hal
        have mr := cell_below hm hbel rfl
        go_wp2_with (go_at_call 10; go_must (refine (hb64.out _).mono ?_; rintro e w2 ⟨rfl, hb2⟩; have t2 := hbel.trans (hb2.mono hsz); have z2 := t2.size; have m2 := cell_below hm t2 rfl))
        have hown2 := hown.below hb2 (Nat.le_refl _)
        have HJJ := Lib.hid hJ
        have HJ' := Lib.hid hJl
        clear hown hJ hJl
        go_loopw [11, 12] (fun v i wr => ∃ (k : Nat) (L : ByteArray), i = .int .i64 k ∧ v = .string L ∧ ownsB wr w.heap.size 5 u8 acc ∧ Below w.heap.size w wr ∧ k ≤ B.size ∧ k ≤ 400 ∧ L.size ≤ 101 * k ∧ LooseIs acc B.data.toList L.data.toList k) (fun _ i _ => B.size - (intOf i).toNat)
        case atStart => exact ⟨0, ⟨#[]⟩, rfl, rfl, hown2, t2, by omega, by omega, by simp [ByteArray.size], loose_nil _ _⟩
        case round =>
          obtain ⟨k, L, rfl, rfl, hownr, hbelr, hk, hk4, hL, hrel⟩ := hrel
          by_cases hlt2 : k < B.size ∧ k < 400
          · obtain ⟨hlt2, hlt4⟩ := hlt2
            have hcv : ∀ n, (convert 25 9 u8).run Tryd.prog (wr.drewN n) = .ok (.string J) (wr.drewN n) := fun n => by
              have hown' : ownsB (wr.drewN n) w.heap.size 5 u8 acc := hownr
              rw [run_string_owned (P := Tryd.prog) (ts := 9) bslU Tryd.underlying9 hown', ← HJJ.out]
            have hst := loose_step HJ.out hrel hlt2
            have hw1 : IntKind.i64.wrap ((k : Int) + 1) = (k : Int) + 1 := IntWalk.i64_in _ (by omega)
            have hp1 : (0 : Int) ≤ (k : Int) + 1 := by omega
            have ht1 : ((k : Int) + 1).toNat = k + 1 := by omega
            go_wp2_with fail
            go_quiet (fail)
            go_wp2_with fail
            go_roundw
            case rel => exact ⟨k + 1, _, by go_num, rfl, hownr, ⟨hbelr.os, hbelr.tape, hbelr.output, hbelr.size, hbelr.block⟩, by omega, by omega, by rw [ByteArray.size_append, ByteArray.size_append, ByteArray.size_extract]; omega, by rw [ext_one L J B k hlt2, HJ'.out]; exact hst⟩
            case measure => simp [intOf]; omega
          · have hszr := hbelr.size
            have mk := cell_below hm hbelr rfl
            have X2 : Hid (unB64R (B ++ (⟨#[61]⟩ : ByteArray) ++ bh).data.toList = unB64R B.data.toList) := by
              rw [app_list, app_list]; exact loose_behind _ _
            have C2 := Lib.hid (HUN.out (B ++ (⟨#[61]⟩ : ByteArray) ++ bh) (by rw [ByteArray.size_append, ByteArray.size_append]; show B.size + 1 + bh.size ≤ _; omega) X2.out)
            clear X2
            have hla := loose_all hrel
            by_cases hbig : 400 < B.size
            · have hk400 : k = 400 := by omega
              have hge : 400 ≤ k := by omega
              have hltB : k < B.size := by omega
              have C1 := Lib.hid (HUN.out (L ++ B.extract 400 B.size) (by rw [ByteArray.size_append, ByteArray.size_extract]; omega) (by
                rw [app_list, ext_list, List.take_of_length_le (by rw [List.length_drop]; show B.size - 400 ≤ _; omega), ← hk400]; exact hla))
              clear hla hrel HUN hk400 hlt2
              go_wp2_with (first
                | (go_at_call 12; refine (C2.out _ m3).mono ?_; rintro e w4 ⟨rfl, hb4⟩; have t4 := t3.trans (hb4.mono z3); have z4 := t4.size)
                | (go_at_call 12; refine (C1.out _ mk).mono ?_; rintro e w3 ⟨rfl, hb3⟩; have t3 := hbelr.trans (hb3.mono hszr); have z3 := t3.size; have m3 := cell_below hm t3 rfl))
              go_ret
              exact ⟨rfl, t4⟩
            · have hkB : k = B.size := by omega
              have hge : B.size ≤ k := by omega
              have C1 := Lib.hid (HUN.out L (by omega) (by rw [List.drop_eq_nil_of_le (by show B.size ≤ k; omega), List.append_nil] at hla; exact hla))
              clear hla hrel HUN hkB hlt2
              go_wp2_with (first
                | (go_at_call 12; refine (C2.out _ m3).mono ?_; rintro e w4 ⟨rfl, hb4⟩; have t4 := t3.trans (hb4.mono z3); have z4 := t4.size)
                | (go_at_call 12; refine (C1.out _ mk).mono ?_; rintro e w3 ⟨rfl, hb3⟩; have t3 := hbelr.trans (hb3.mono hszr); have z3 := t3.size; have m3 := cell_below hm t3 rfl))
              go_ret
              exact ⟨rfl, t4⟩
  · by_cases h1 : s.size ≤ 10000
    · by_cases h2 : bh.size ≤ 10000
      · have h3 : 100 < bt.size := by omega
        clear hsz
        go_enter Tryd.func6, Tryd.ntmps6
        go_wp2_with (first
          | (go_at_call 8; refine (small_any _ m hm).mono ?_; rintro e w1 ⟨rfl, hb1⟩; have z1 := hb1.size)
          | (go_at_call 9; refine (few_any _ _).mono ?_; rintro e w' ⟨rfl, rfl⟩))
        go_ret
        exact ⟨rfl, hb1⟩
      · clear hsz
        go_enter Tryd.func6, Tryd.ntmps6
        go_wp2_with (first
          | (go_at_call 8; refine (small_any _ m hm).mono ?_; rintro e w1 ⟨rfl, hb1⟩; have z1 := hb1.size)
          | (go_at_call 9; refine (few_any _ _).mono ?_; rintro e w' ⟨rfl, rfl⟩))
        go_ret
        exact ⟨rfl, hb1⟩
    · clear hsz
      go_enter Tryd.func6, Tryd.ntmps6
      go_wp2_with (first
        | (go_at_call 8; refine (small_any _ m hm).mono ?_; rintro e w1 ⟨rfl, hb1⟩; have z1 := hb1.size)
        | (go_at_call 9; refine (few_any _ _).mono ?_; rintro e w' ⟨rfl, rfl⟩))
      go_ret
      exact ⟨rfl, hb1⟩
end Go.Proofs.YtgkbjgmcgbnnaaaDoor
