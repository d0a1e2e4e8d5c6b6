/- Walks: lex: Scan. -/
import Derived.Test.YtgimgkjggaijoaaGreatDoorLxS
import Derived.Test.YtgimgkjggaijoaaGreatDoorLxL
import Derived.Test.YtgimgkjggaijoaaGreatDoorKitG
namespace Lx
open Go Pk Go.RowKit
structure Lex where
  k : Int
  t : ByteArray
  n : Int
  a : Int
def lexLay : Lay Lex where
  enc := fun x => [.int .i64 x.k, .string x.t, .int .i64 x.n, .int .i64 x.a]
  k := 4
  hk := fun _ => rfl
  h0 := by decide
  one := fun x u hu => by
    simp only [List.mem_cons, List.not_mem_nil, or_false] at hu
    rcases hu with rfl | rfl | rfl | rfl <;> rfl
def lexOf (p : Tok × Nat) : Lex := ⟨p.1.k, ⟨p.1.t.toArray⟩, p.1.n, p.2⟩
/-- the tokens so far, and what is left -/
def RunAt (s : ByteArray) (k : Nat) (acc : List (Tok × Nat)) : Prop := ∀ ts e, Run (tl s k) k ts e → Run s.data.toList 0 (acc ++ ts) e
theorem runAt_begin (s : ByteArray) : RunAt s 0 [] := fun ts e h => by rwa [tl_zero] at h
theorem tl_drop (s : ByteArray) (k n : Nat) : (tl s k).drop n = tl s (k + n) := by unfold tl; rw [List.drop_drop]
theorem runAt_sp {s : ByteArray} {k n : Nat} {acc : List (Tok × Nat)} (h : RunAt s k acc) (h0 : 0 < n) (hs : spaceL (tl s k) = some n) : RunAt s (k + n) acc := fun ts e hr => h ts e (Run.sp h0 hs (by rw [tl_drop]; exact hr))
theorem runAt_tok {s : ByteArray} {k n : Nat} {t : Tok} {acc : List (Tok × Nat)} (h : RunAt s k acc) (h0 : k < s.size) (hs : spaceL (tl s k) = some 0) (ht : tokenL (tl s k) = some (t, n)) : RunAt s (k + n) (acc ++ [(t, k)]) := fun ts e hr => by
  rw [List.append_assoc]
  exact h _ e (Run.tok (by rw [tl_cons s k h0]; simp) hs ht (by rw [tl_drop]; exact hr))
theorem runAt_bad1 {s : ByteArray} {k : Nat} {acc : List (Tok × Nat)} (h : RunAt s k acc) (h0 : k < s.size) (hs : spaceL (tl s k) = none) : Run s.data.toList 0 acc (some k) := by
  have := h [] (some k) (Run.bad ⟨by rw [tl_cons s k h0]; simp, .inl hs⟩)
  rwa [List.append_nil] at this
theorem runAt_bad2 {s : ByteArray} {k : Nat} {acc : List (Tok × Nat)} (h : RunAt s k acc) (h0 : k < s.size) (hs : spaceL (tl s k) = some 0) (ht : tokenL (tl s k) = none) : Run s.data.toList 0 acc (some k) := by
  have := h [] (some k) (Run.bad ⟨by rw [tl_cons s k h0]; simp, .inr ⟨hs, ht⟩⟩)
  rwa [List.append_nil] at this
theorem runAt_end {s : ByteArray} {k : Nat} {acc : List (Tok × Nat)} (h : RunAt s k acc) (h0 : ¬ k < s.size) : Run s.data.toList 0 acc none := by
  have := h [] none (by rw [tl_end s k (by omega)]; exact Run.fin k)
  rwa [List.append_nil] at this
end Lx
namespace Go.Proofs.YtgimgkjggaijoaaGreatDoor
open Go.RowKit Pk Lx

theorem cells_at (w : World) (B : Nat) (hB : w.heap.size = B) (cs : List Value) (t : TypeId) : ∀ j u, cs[j]? = some u → (w.alloc (.cells cs.toArray t)).cell? ((⟨B, 0, none⟩ : Addr).add j) = some u := by
  subst hB; exact cells_new w cs t
theorem slL : GSl lexLay 40 Tryz.prog 27 41 := GSl.of Tryz.underlying27 (by kernel_rfl)
def ScanIs (s : ByteArray) (w : World) (e : Ending) (w' : World) : Prop :=
  ∃ ts, ((∃ v, Run s.data.toList 0 ts none ∧ e = .returned (.tuple #[v, .int .i64 0, .int .i64 0]) ∧ ownsG lexLay w' w.heap.size 41 v (ts.map lexOf)) ∨
    (∃ k : Nat, Run s.data.toList 0 ts (some k) ∧ e = .returned (.tuple #[.slice none 0 0, .int .i64 2, .int .i64 k]))) ∧ Below w.heap.size w w'
theorem space_of (s : ByteArray) (k : Nat) (w : World) (hw : LW w) (hs : s.size ≤ 5000000) : Calls Tryz.prog 18 #[.string (s.extract k s.size)] w (OptRet (spaceL (tl s k)) w) := by
  obtain ⟨⟨m, hm⟩, -⟩ := hw
  have := space_any (s.extract k s.size) w m hm (by rw [ext_size]; omega)
  rwa [ext_from] at this
theorem token_of (s : ByteArray) (k : Nat) (w : World) (hw : LW w) (hs : s.size ≤ 5000000) (hk : k < s.size) : Calls Tryz.prog 19 #[.string (s.extract k s.size)] w (TokIs (tokenL (tl s k)) w) := by
  have := token_any (s.extract k s.size) w hw (by rw [ext_size]; omega) (by rw [ext_size]; omega)
  rwa [ext_from] at this
set_option maxHeartbeats 8000000 in
set_option maxRecDepth 100000 in
theorem scan_any (s : ByteArray) (w : World) (hw : LW w) (hs : s.size ≤ 5000000) : Calls Tryz.prog 10 #[.string s] w (ScanIs s w) := by
  have HW := Lib.hid (fun w1 (hb : Below w.heap.size w w1) => hw.later hb)
  clear hw
  go_enter Tryz.func10, Tryz.ntmps10
  go_wp2
  go_step3
  go_wp2
  go_step3
  go_wp2
  go_loopw [5, 6] (fun ov iv wr => ∃ (k : Nat) (acc : List (Tok × Nat)), iv = .int .i64 k ∧ k ≤ s.size ∧ acc.length ≤ k ∧ ownsG lexLay wr w.heap.size 41 ov (acc.map lexOf) ∧ Below w.heap.size w wr ∧ Hid (RunAt s k acc)) (fun _ iv _ => s.size - (intOf iv).toNat)
  case atStart => exact ⟨0, [], by first | rfl | trivial, Nat.zero_le _, Nat.le_refl _, ownsG.nil _ _ _ _, Below.refl _ _, runAt_begin s⟩
  case round =>
    obtain ⟨k, acc, rfl, hk, hal, hown, hbel, hrel⟩ := hrel
    have hsz := hbel.size
    by_cases hlt : k < s.size
    · have hSp := space_of s k wr (HW.out wr hbel) hs
      have hsl := fun n (h : spaceL (tl s k) = some n) => spaceL_le h
      rw [tl_length] at hsl
      have z1 : (k : Int) < (s.size : Int) := by omega
      cases hsp : spaceL (tl s k) with
      | none =>
        have hX := Lib.hid (runAt_bad1 hrel.out hlt hsp)
        rw [hsp] at hSp
        have HSp := Lib.hid (show Calls Tryz.prog 18 #[.string (s.extract k s.size)] wr fun e w' => e = .returned (.int .i64 (-1)) ∧ Below wr.heap.size wr w' from hSp)
        clear hSp hsl hsp hrel hown
        go_wp2_with (go_at_call 18; (with_reducible refine HSp.out.mono ?_); rintro e w1 ⟨rfl, hb1⟩)
        simp only [Exit.noGoto_ret]
        go_ret3
        exact ⟨acc, .inr ⟨k, hX.out, rfl⟩, hbel.trans (hb1.mono hsz)⟩
      | some n =>
        have hnl := hsl n hsp
        rw [hsp] at hSp
        have HSp := Lib.hid (show Calls Tryz.prog 18 #[.string (s.extract k s.size)] wr fun e w' => e = .returned (.int .i64 (n : Int)) ∧ Below wr.heap.size wr w' from hSp)
        by_cases hn0 : 0 < n
        · have hnx := Lib.hid (runAt_sp hrel.out hn0 hsp)
          clear hSp hsl hsp hrel
          go_wp2_with (go_at_call 18; (with_reducible refine HSp.out.mono ?_); rintro e w1 ⟨rfl, hb1⟩)
          go_roundw
          case rel => exact ⟨k + n, acc, by go_num, by omega, by omega, hown.below hb1 (Nat.le_refl _), hbel.trans (hb1.mono hsz), hnx⟩
          case measure => simp [intOf]; omega
        · obtain rfl : n = 0 := by omega
          have hTk := fun w1 (hb : Below w.heap.size w w1) => token_of s k w1 (HW.out w1 hb) hs hlt
          have hnx := fun t n (h : tokenL (tl s k) = some (t, n)) => runAt_tok hrel.out hlt hsp h
          have hbd := runAt_bad2 hrel.out hlt hsp
          have hpo := fun t n (h : tokenL (tl s k) = some (t, n)) => tokenL_pos h
          rw [tl_length] at hpo
          clear hSp hsl hsp hrel
          unfold TokIs TokV at hTk
          cases htk : tokenL (tl s k) with
          | none =>
            have hX := Lib.hid (hbd htk)
            rw [htk] at hTk
            have HTk := Lib.hid hTk
            clear hTk hnx hbd hpo htk
            go_wp2_with (first
              | (go_at_call 18; (with_reducible refine HSp.out.mono ?_); rintro e w1 ⟨rfl, hb1⟩)
              | (go_at_call 19; go_loud ((with_reducible refine (HTk.out _ (hbel.trans (hb1.mono hsz))).mono ?_); rintro e w2 ⟨⟨k2, t2, n2, m2, rfl, rfl⟩, hb2⟩)))
            simp only [Exit.noGoto_ret]
            go_ret3
            exact ⟨acc, .inr ⟨k, hX.out, rfl⟩, ((hbel.trans (hb1.mono hsz)).trans (hb2.mono (Nat.le_trans hsz hb1.size))).alloc (Nat.le_trans (Nat.le_trans hsz hb1.size) hb2.size) _⟩
          | some p =>
            obtain ⟨⟨tk, tt, tn⟩, m⟩ := p
            have hnx := Lib.hid (hnx _ _ htk)
            have hpo := hpo _ _ htk
            rw [htk] at hTk
            have HTk := Lib.hid hTk
            clear hTk hbd htk
            go_wp2_with (first
              | (go_at_call 18; (with_reducible refine HSp.out.mono ?_); rintro e w1 ⟨rfl, hb1⟩)
              | (go_at_call 19; go_loud ((with_reducible refine (HTk.out _ (hbel.trans (hb1.mono hsz))).mono ?_); rintro e w2 ⟨⟨k2, t2, n2, m2, rfl, rfl, rfl, rfl, rfl⟩, hb2⟩; have hb12 := hb1.trans (hb2.mono hb1.size); have hz2 := hb12.size))
              | (at_builtin; go_loud (refine append_g _ rfl (.tmp 40) (.tmp 42) slL rfl w.heap.size _ (acc.map lexOf) rfl (ownsG.alloc (ownsG.alloc (hown.below hb12 (Nat.le_refl _)) _) _) ⟨_, 0, none⟩ [lexOf (⟨tk, tt, tn⟩, k)] 1 1 rfl rfl (cells_at _ _ (by simp) _ _) (by rw [List.length_map]; omega) (by rw [List.length_map]; omega) (by simp; omega) ?_; intro v6 w6 hown6 hg6; have hbB := ((hbel.trans (hb12.mono hsz)).alloc (Nat.le_trans hsz hz2) (.cells #[.int .i64 tk, .string (toB tt), .int .i64 tn, .int .i64 k] 41)).alloc (by simp; omega) (.cells #[.int .i64 tk, .string (toB tt), .int .i64 tn, .int .i64 k] 41); have hb6 := Below_grownG hbB (ownsG.alloc (ownsG.alloc (hown.below hb12 (Nat.le_refl _)) _) _) hg6 (by simp; omega); clear hg6 hbB)))
            go_roundw
            case rel => exact ⟨k + m, acc ++ [(⟨tk, tt, tn⟩, k)], by go_num, by omega, by rw [List.length_append, List.length_singleton]; omega, by rw [List.map_append]; exact hown6, hb6, hnx⟩
            case measure => simp [intOf]; omega
    · have hX := Lib.hid (runAt_end hrel.out hlt)
      clear hrel
      go_wp2
      simp only [Exit.noGoto_ret]
      go_ret3
      exact ⟨acc, .inl ⟨_, hX.out, rfl, hown⟩, hbel⟩
end Go.Proofs.YtgimgkjggaijoaaGreatDoor
