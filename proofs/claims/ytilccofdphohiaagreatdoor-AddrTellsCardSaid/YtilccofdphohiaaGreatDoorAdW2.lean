/- Walks: addr: bare, plain. Walks: strings.IndexRune and ContainsRune at a rune past 127 in ASCII text. Walks: addr: atom, dotted. Walks: addr: dotted. -/
import Derived.Test.YtilccofdphohiaaGreatDoorAdW1
import Derived.Test.YtilccofdphohiaaGreatDoorTk8
import Derived.Test.YtilccofdphohiaaGreatDoorUtx
import Derived.Laws.Runes
import Derived.BigQuiet
import Derived.WalkMore
import Derived.Outline
import Derived.BigRegion
import Derived.Deep.QuietTactic
import Derived.Test.YtilccofdphohiaaGreatDoorTk7
import Derived.Deep.LoopGhost
namespace Go.Proofs.YtilccofdphohiaaGreatDoor
open Go.RowKit Pk Ad Tk Fo Su Rp

def bps : List (UInt8 × ByteArray) := [(9, ⟨#[]⟩), (10, ⟨#[]⟩), (13, ⟨#[]⟩), (32, ⟨#[]⟩)]
theorem bps_rep (l : List UInt8) : repA bps l = bareS l := by
  unfold repA bareS
  have h0 : ∀ n : Nat, n < 256 → repP bps (UInt8.ofNat n) = if blankA (UInt8.ofNat n) = true then [] else [UInt8.ofNat n] := by decide +kernel
  have h : ∀ c : UInt8, repP bps c = if blankA c = true then [] else [c] := fun c => by
    have := h0 c.toNat c.toNat_lt
    rwa [UInt8.ofNat_toNat] at this
  induction l with
  | nil => rfl
  | cons c r ih =>
    rw [List.flatMap_cons, ih, h c, List.filter_cons]
    cases blankA c <;> rfl
set_option maxHeartbeats 4000000 in
set_option maxRecDepth 100000 in
theorem abare_any (s : ByteArray) (w : World) (hs : s.size ≤ 1000000) : Calls Tryz.prog 80 #[.string s] w (StrIs (bareS s.data.toList) w) := by
  have hcells : ∀ (W : World) j (u : Value), ((inter bps).map strV)[j]? = some u → (W.alloc (.cells ((inter bps).map strV).toArray 9)).cell? ((⟨W.heap.size, 0, none⟩ : Addr).add j) = some u := fun W j u h => cells_new W _ _ j u h
  have hN := fun W => newRep_any W.heap.size 8 8 (inter bps) (W.alloc (.cells ((inter bps).map strV).toArray 9)) rfl (by decide) (hcells W) (by decide)
  have hRep := fun r B v w hrow hown => replace_any r B v bps s w hs (by decide) (by decide) (by decide) (by decide) (by decide) hrow hown
  rw [bps_rep] at hRep
  have HN := Lib.hid hN
  have HRep := Lib.hid hRep
  clear hN hRep hcells
  go_enter Tryz.func80, Tryz.ntmps80
  go_wp2_with (first
    | (go_at_call 40; go_loud ((refine (HN.out w).mono ?_); rintro e w2 ⟨r, v, rfl, hrow, hown, hr, hb2⟩))
    | (go_at_call 41; go_loud ((refine (HRep.out r _ v _ hrow hown).mono ?_); rintro e w3 ⟨rfl, hb3⟩)))
  go_ret
  have ha : w.heap.size ≤ (w.alloc (.cells ((inter bps).map strV).toArray 9)).heap.size := heap_size_alloc_le _ _
  exact ⟨rfl, (((Below.refl w.heap.size w).alloc (Nat.le_refl _) (.cells ((inter bps).map strV).toArray 9)).trans (hb2.mono ha)).trans (hb3.mono (Nat.le_trans ha hr))⟩
def pl1 (low : Nat) (c : UInt8) : Bool := decide (low ≤ c.toNat) && !(c == 127)
theorem all_at {p : UInt8 → Bool} {s : ByteArray} {k : Nat} (hk : k < s.size) (h : (tl s k).all p = (s.data.toList).all p) : (p s[k] = true → (tl s (k + 1)).all p = (s.data.toList).all p) ∧ (p s[k] = false → (s.data.toList).all p = false) := by
  rw [tl_cons s k hk, List.all_cons] at h
  exact ⟨fun h1 => by rw [h1, Bool.true_and] at h; exact h, fun h1 => by rw [h1, Bool.false_and] at h; exact h.symm⟩
set_option maxHeartbeats 1000000 in
set_option maxRecDepth 100000 in
theorem aplain_any (s : ByteArray) (low : Nat) (w : World) (hlow : low ≤ 100) (hs : s.size ≤ 100000000) : Calls Tryz.prog 34 #[.string s, .int .u8 low] w fun e w' => e = .returned (.bool (plainA low s.data.toList)) ∧ w' = w := by
  have hst : Hid ((tl s 0).all (pl1 low) = s.data.toList.all (pl1 low)) := by rw [tl_zero]; exact rfl
  have hX : plainA low s.data.toList = s.data.toList.all (pl1 low) := rfl
  rw [hX]
  clear hX
  go_enter Tryz.func34, Tryz.ntmps34
  go_wp2
  go_loop [8] (fun iv => ∃ k : Nat, k ≤ s.size ∧ iv = .int .i64 k ∧ Hid ((tl s k).all (pl1 low) = s.data.toList.all (pl1 low))) (fun iv => s.size - (intOf iv).toNat)
  case atStart => exact ⟨0, by omega, by first | rfl | trivial, hst⟩
  case round =>
    obtain ⟨k, hk, rfl, hrel⟩ := hrel
    by_cases hlt : k < s.size
    · obtain ⟨s1, s2⟩ := all_at hlt hrel.out
      have hc := s[k].toNat_lt
      by_cases h1 : low ≤ s[k].toNat
      · have q1 : decide ((s[k].toNat : Int) < (low : Int)) = false := decide_eq_false (by omega)
        have q1' : decide (s[k].toNat < low) = false := decide_eq_false (by omega)
        by_cases h2 : s[k] = 127
        · have q2 : ((s[k].toNat : Int) == 127) = true := by rw [h2]; rfl
          have HX := s2 (by unfold pl1; rw [h2]; simp)
          clear s1 s2 hrel h2
          go_wp2
          go_ret
          exact ⟨rfl, rfl⟩
        · have q2 : ((s[k].toNat : Int) == 127) = false := by
            rw [beq_eq_false_iff_ne]; intro e; apply h2; rw [← UInt8.toNat_inj]; exact_mod_cast e
          have HX := Lib.hid (s1 (by unfold pl1; rw [decide_eq_true h1, beq_eq_false_iff_ne.2 h2]; rfl))
          clear s1 s2 hrel h2
          go_wp2
          go_round
          case rel => exact ⟨k + 1, by omega, by go_num, HX⟩
          case measure => simp [intOf]; omega
      · have q1 : decide ((s[k].toNat : Int) < (low : Int)) = true := decide_eq_true (by omega)
        have q1' : decide (s[k].toNat < low) = true := decide_eq_true (by omega)
        have HX := s2 (by unfold pl1; rw [decide_eq_false h1]; rfl)
        clear s1 s2 hrel
        go_wp2
        go_ret
        exact ⟨rfl, rfl⟩
    · have HX : s.data.toList.all (pl1 low) = true := by
        have e := hrel.out
        rw [tl_end s k (by omega)] at e
        exact e.symm
      clear hrel
      go_wp2
      go_ret
      exact ⟨rfl, rfl⟩
end Go.Proofs.YtilccofdphohiaaGreatDoor
namespace Go.Proofs.YtilccofdphohiaaGreatDoor
open Go.RowKit Pk Ad Fo U8

def Ascii (S : ByteArray) : Prop := ∀ (j : Nat) (h : j < S.size), S[j].toNat < 128
theorem ib_none (l : List UInt8) (c : UInt8) (h : ∀ x ∈ l, x ≠ c) : Lib.indexByte l c = -1 := by
  have h1 := Lib.indexByte_ge l c
  by_cases h2 : Lib.indexByte l c = -1
  · exact h2
  · obtain ⟨o, ho⟩ : ∃ o : Nat, Lib.indexByte l c = o := ⟨(Lib.indexByte l c).toNat, by omega⟩
    have := (Lib.indexByte_some ho).1
    exact absurd rfl (h c (List.mem_of_getElem? this))
theorem ibS (s : ByteArray) (c : Nat) (w : World) : Calls Tryz.prog 75 #[.string s, .int .u8 c] w fun e w' => e = .returned (.int .i64 (Lib.indexByte s.data.toList c.toUInt8)) ∧ w' = w := Tryz.strings_IndexByte s c w
theorem drewN_belowB (w : World) (n : Nat) : Below w.heap.size w (w.drewN n) := ⟨rfl, rfl, rfl, Nat.le_refl _, fun _ _ => rfl⟩
set_option maxHeartbeats 1000000 in
set_option maxRecDepth 1000000 in
theorem irune_hi (S : ByteArray) (r : Nat) (w : World) (hS : Ascii S) (hz : S.size ≤ 1000) (h1 : 128 ≤ r) (hv : Sca r) (h2 : r ≠ 65533) : Calls Tryz.prog 88 #[.string S, .int .i32 r] w fun e w' => e = .returned (.int .i64 (-1)) ∧ Below w.heap.size w w' := by
  have hval := (valid_iff r).2 hv
  obtain ⟨f1, f2, f3⟩ := encode_facts (r : Int) hval (by omega)
  have hcv := fun w => run_convert_int_string (P := Tryz.prog) w 21 9 .i32 (r : Int) (by kernel_rfl) Tryz.underlying9
  obtain ⟨L, hL⟩ : ∃ L, (Utf8.encode (r : Int)).size = L + 1 := ⟨(Utf8.encode (r : Int)).size - 1, by omega⟩
  generalize Utf8.encode (r : Int) = E at *
  have eL : (E.size : Int) - 1 = (L : Int) := by omega
  have hLE : L < E.size := by omega
  have hL4 : L ≤ 4 := by omega
  have eW : wrap64 (L : Int) = (L : Int) := by unfold wrap64; omega
  have HF : Hid (128 ≤ E[L].toNat) := by
    have h5 := f3 (by omega)
    have h6 : E.size - 1 = L := by omega
    simp only [h6] at h5
    exact h5
  have hV := fun w => Tryz.utf8_ValidRune (r : Int) w
  have hv2 : Lib.validRune (r : Int) = true := by
    unfold Lib.validRune
    unfold Sca at hv
    exact decide_eq_true (by omega)
  rw [hv2] at hV
  have HV := Lib.hid hV
  have HS := Lib.hid hS
  have ibE : ∀ L' (_ : L' < S.size) (w : World), Calls Tryz.prog 75 #[.string (S.extract (L + 1) S.size), .int .u8 E[L].toNat] w fun e w' => e = .returned (.int .i64 (-1)) ∧ w' = w := fun _ _ w => by
    have := ibS (S.extract (L + 1) S.size) E[L].toNat w
    rw [ib_none _ _ (fun x hx e => ?_)] at this
    · exact this
    · have h5 := HF.out
      have h6 : x.toNat = E[L].toNat := by
        rw [e]
        have := E[L].toNat_lt
        simp
      rw [ByteArray.data_extract] at hx
      have hx : x ∈ S.data := by
        rw [Array.toList_extract] at hx
        exact Array.mem_toList_iff.1 (List.mem_of_mem_drop (List.mem_of_mem_take (by simpa [List.extract_eq_take_drop] using hx)))
      obtain ⟨j, hj, rfl⟩ := Array.getElem_of_mem hx
      have := hS j hj
      have e9 : S[j].toNat = S.data[j].toNat := rfl
      omega
  have q1 : decide ((r : Int) < 128) = false := decide_eq_false (by omega)
  have q1' : decide (r < 128) = false := decide_eq_false (by omega)
  have q2 : ((r : Int) == 65533) = false := beq_eq_false_iff_ne.2 (by omega)
  clear hv hval hV hv2 hS f3 hL f1 f2
  go_enter Tryz.func88, Tryz.ntmps88
  go_wp2_with (go_at_call 106; (with_reducible refine (HV.out _).mono ?_); rintro e w1 ⟨rfl, rfl⟩)
  go_step3
  go_wp2_with fail
  go_loopw [9] (fun iv wr => iv = .int .i64 L ∧ Below w1.heap.size w1 wr) (fun _ _ => 0)
  case atStart => exact ⟨by first | rfl | rw [eL], Below.refl _ _⟩
  case round =>
    obtain ⟨rfl, hbel⟩ := hrel
    by_cases hlt : L < S.size
    · have k1 := HS.out L hlt
      have k2 : 128 ≤ E[L].toNat := HF.out
      have q3 : ((S[L].toNat : Int) != (E[L].toNat : Int)) = true := by rw [bne_iff_ne]; omega
      have HB := Lib.hid (fun w => ibE L hlt w)
      have u1 : (0 : Int) ≤ (L : Int) + 1 := by omega
      have u2 : (L : Int) + 1 ≤ (S.size : Int) := by omega
      have u3 : ((L : Int) + 1).toNat = L + 1 := by omega
      have u4 : IntKind.i64.wrap ((L : Int) + 1) = (L : Int) + 1 := by rw [IntKind.wrap_i64]; omega
      clear k1 k2
      go_wp2_with fail
      go_step3
      go_wp2_with fail
      go_quiet (fail)
      have hbq := hbel.trans ((drewN_belowB wr nq).mono hbel.size)
      generalize wr.drewN nq = wq at *
      go_wp2_with fail
      go_quiet ((go_at_call 75; go_loud (exact Calls.quiet_of_same ((HB.out _).mono fun _ _ h => ⟨h.1, h.2⟩))))
      go_wp2_with fail
      simp only [Exit.noGoto_ret]
      go_wp2_with fail
      simp only [Exit.noGoto_ret]
      go_wp2_with fail
      go_ret
      exact ⟨rfl, hbq.trans ((drewN_belowB wq nq).mono hbq.size)⟩
    · have hlt' : ¬ S.size > L := hlt
      go_wp2_with fail
      simp only [Exit.noGoto_ret]
      go_ret
      exact ⟨rfl, hbel⟩
set_option maxHeartbeats 1000000 in
set_option maxRecDepth 100000 in
theorem crune_hi (S : ByteArray) (r : Nat) (w : World) (hS : Ascii S) (hz : S.size ≤ 1000) (h1 : 128 ≤ r) (hv : Sca r) (h2 : r ≠ 65533) : Calls Tryz.prog 93 #[.string S, .int .i32 r] w fun e w' => e = .returned (.bool false) ∧ Below w.heap.size w w' := by
  have hI := Lib.hid (fun w => irune_hi S r w hS hz h1 hv h2)
  clear hS hv
  go_enter Tryz.func93, Tryz.ntmps93
  go_wp2_with (go_at_call 88; (with_reducible refine (hI.out _).mono ?_); rintro e w1 ⟨rfl, hb1⟩)
  go_ret
  exact ⟨rfl, hb1⟩
end Go.Proofs.YtilccofdphohiaaGreatDoor
namespace Go.Proofs.YtilccofdphohiaaGreatDoor
open Go.RowKit Pk Ad Tk Fo Su

def spB : ByteArray := ⟨#[40, 41, 60, 62, 91, 93, 58, 59, 64, 92, 44, 46, 34]⟩
theorem spB_asc : Ascii spB := fun j h => by
  have h : j < 13 := h
  have : ∀ k : Fin 13, (spB[k.1]'(show k.1 < 13 from k.2)).toNat < 128 := by decide +kernel
  exact this ⟨j, h⟩
theorem spec_hi {c : UInt8} (h : 128 ≤ c.toNat) : spec c = false := by
  have h0 : ∀ n : Nat, n < 256 → 128 ≤ n → spec (UInt8.ofNat n) = false := by decide +kernel
  have := h0 c.toNat c.toNat_lt h
  rwa [UInt8.ofNat_toNat] at this
theorem crune (c : UInt8) (w : World) : Calls Tryz.prog 93 #[.string ⟨#[40, 41, 60, 62, 91, 93, 58, 59, 64, 92, 44, 46, 34]⟩, .int .i32 c.toNat] w fun e w' => e = .returned (.bool (spec c)) ∧ Below w.heap.size w w' := by
  by_cases h : c.toNat < 128
  · refine (Tryz.strings_ContainsRune_ascii spB c.toNat w (by omega) (by omega)).mono ?_
    rintro e w' ⟨h1, rfl⟩
    refine ⟨?_, Below.refl _ _⟩
    rw [h1]
    have e1 : ((c.toNat : Int)).toNat.toUInt8 = c := by simp
    rw [e1, ← (spec_ix c).2]
    rfl
  · rw [spec_hi (by omega)]
    exact crune_hi spB c.toNat w spB_asc (by decide) (by omega) (by unfold U8.Sca; have := c.toNat_lt; omega) (by have := c.toNat_lt; omega)
set_option maxRecDepth 100000 in
theorem aatom_any (c : UInt8) (w : World) : Calls Tryz.prog 64 #[.int .u8 c.toNat] w fun e w' => e = .returned (.bool (atm c)) ∧ Below w.heap.size w w' := by
  have HI := Lib.hid (fun w => crune c w)
  have hc := c.toNat_lt
  by_cases h1 : 32 < c.toNat
  · by_cases h2 : c = 127
    · have e : atm c = false := by unfold atm; rw [h2]; simp
      have q : ((c.toNat : Int) != 127) = false := by rw [h2]; rfl
      clear h2
      rw [e]
      clear e
      go_enter Tryz.func64, Tryz.ntmps64
      go_wp2_with fail
      go_ret
      exact ⟨rfl, Below.refl _ _⟩
    · have e : atm c = !(spec c) := by unfold atm; rw [decide_eq_true h1, beq_eq_false_iff_ne.2 h2]; simp
      have q : ((c.toNat : Int) != 127) = true := by
        rw [bne_iff_ne]; intro e; apply h2; rw [← UInt8.toNat_inj]; exact_mod_cast e
      have w1 : IntKind.i32.wrap (c.toNat : Int) = (c.toNat : Int) := by rw [IntKind.wrap_i32]; omega
      clear h2
      rw [e]
      clear e
      generalize spec c = b at *
      cases b with
      | true =>
        go_enter Tryz.func64, Tryz.ntmps64
        go_wp2_with (go_at_call 93; (with_reducible refine (HI.out _).mono ?_); rintro e w2 ⟨rfl, hb2⟩)
        go_ret
        exact ⟨rfl, hb2⟩
      | false =>
        go_enter Tryz.func64, Tryz.ntmps64
        go_wp2_with (go_at_call 93; (with_reducible refine (HI.out _).mono ?_); rintro e w2 ⟨rfl, hb2⟩)
        go_ret
        exact ⟨rfl, hb2⟩
  · have e : atm c = false := by unfold atm; rw [decide_eq_false h1]; rfl
    rw [e]
    clear e
    go_enter Tryz.func64, Tryz.ntmps64
    go_wp2_with fail
    go_ret
    exact ⟨rfl, Below.refl _ _⟩
theorem split_dot (s : ByteArray) (w : World) (m : Int) (hm : w.cell? ⟨0, 0, none⟩ = some (.int .i64 m)) (hs : s.size ≤ 100000000) :
    ∃ WS : List ByteArray, WS.all wOk = dotted s.data.toList ∧ WS.length ≤ 100000001 ∧ (∀ x ∈ WS, x.size ≤ 100000000) ∧ Calls Tryz.prog 63 #[.string s, .string ⟨#[46]⟩] w fun e w' => e = .returned (.slice (some ⟨w.heap.size, 0, none⟩) WS.length WS.length) ∧ w' = w.alloc (.cells (WS.map Value.string).toArray 9) := by
  have hl := Lib.splitB_all ⟨#[46]⟩ (Nat.le_refl 1) 0 _ s rfl
  have hB := splitB_spl s 46
  have hmem : ∀ x ∈ Lib.splitB ⟨#[46]⟩ 0 (Lib.countB s ⟨#[46]⟩) s, x.size ≤ 100000000 := by
    have : ∀ (k : Nat) (s : ByteArray), s.size ≤ 100000000 → ∀ x ∈ Lib.splitB ⟨#[46]⟩ 0 k s, x.size ≤ 100000000 := by
      intro k
      induction k with
      | zero => intro s hs x hx; rw [Lib.splitB_zero, List.mem_singleton] at hx; rw [hx]; exact hs
      | succ k ih =>
        intro s hs x hx
        unfold Lib.splitB at hx
        split at hx
        · rw [List.mem_singleton] at hx; rw [hx]; exact hs
        · rcases List.mem_cons.1 hx with rfl | hx
          · rw [ext_size]; omega
          · exact ih _ (by rw [ext_size]; omega) x hx
    exact this _ s hs
  refine ⟨Lib.splitB ⟨#[46]⟩ 0 (Lib.countB s ⟨#[46]⟩) s, ?_, ?_, hmem, ?_⟩
  · unfold dotted; rw [← hB, List.all_map]; rfl
  · rw [hl, countB_one]
    have : s.data.toList.count 46 ≤ s.data.toList.length := List.count_le_length
    rw [dataL] at this
    omega
  · rw [hl]
    exact Tryz.strings_Split s ⟨#[46]⟩ m w (by omega) hm (Nat.le_refl 1)
end Go.Proofs.YtilccofdphohiaaGreatDoor
namespace Go.Proofs.YtilccofdphohiaaGreatDoor
open Go.RowKit Pk Ad Tk Fo Su

set_option maxHeartbeats 4000000 in
set_option maxRecDepth 100000 in
theorem dotted_any (s : ByteArray) (w : World) (m : Int) (hm : w.cell? ⟨0, 0, none⟩ = some (.int .i64 m)) (hs : s.size ≤ 100000000) : Calls Tryz.prog 38 #[.string s] w fun e w' => e = .returned (.bool (dotted s.data.toList)) ∧ Below w.heap.size w w' := by
  obtain ⟨WS, hall, hlen, hsz, hS⟩ := split_dot s w m hm hs
  have hst : Hid ((WS.drop 0).all wOk = dotted s.data.toList) := hall
  generalize dotted s.data.toList = X at hst ⊢
  have hC : ∀ j (h : j < WS.length), (w.alloc (.cells (WS.map Value.string).toArray 9)).cell? ⟨w.heap.size, j, none⟩ = some (.string WS[j]) := fun j h => by
    have := cells_new w (WS.map Value.string) 9 j (.string WS[j]) (by rw [List.getElem?_map, List.getElem?_eq_getElem h]; rfl)
    rwa [Addr.add_lit, Nat.zero_add] at this
  have hb : Below w.heap.size w (w.alloc (.cells (WS.map Value.string).toArray 9)) := (Below.refl _ _).alloc (Nat.le_refl _) _
  have HC := Lib.hid hC
  have HS := Lib.hid hS
  have HZ := Lib.hid hsz
  have HA := Lib.hid (fun c w => aatom_any c w)
  clear hall hm hC hS hsz
  go_enter Tryz.func38, Tryz.ntmps38
  go_wp2_with (go_at_call 63; (with_reducible refine HS.out.mono ?_); rintro e w' ⟨rfl, rfl⟩)
  generalize w.alloc (.cells (WS.map Value.string).toArray 9) = w1 at *
  have hG : w.heap.size ≤ w1.heap.size := hb.size
  go_loopg [9] WS.length (fun g iv wr => ∃ k : Nat, k + g = WS.length ∧ iv = .int .i64 k ∧ Below w1.heap.size w1 wr ∧ Hid ((WS.drop k).all wOk = X))
  case atStart => exact ⟨0, by omega, by first | rfl | trivial, Below.refl _ _, hst⟩
  case round =>
    clear hst
    obtain ⟨k, hkg, rfl, hbel, hrel⟩ := hrel
    by_cases hlt : k < WS.length
    · obtain ⟨s1, s2⟩ := all_step hrel hlt
      have hc := laterW (hbel.mono (Nat.le_refl _)) (HC.out k hlt)
      have hz := HZ.out WS[k] (List.getElem_mem hlt)
      generalize WS[k] = B at s1 s2 hc hz
      have S1 := Lib.hid s1
      have S2 := Lib.hid s2
      clear s1 s2 hrel
      by_cases h0 : B.size = 0
      · have hn := nilS h0
        obtain rfl := S2.out (by unfold wOk wordOk; rw [List.eq_nil_of_length_eq_zero (show B.data.toList.length = 0 from h0)]; rfl)
        clear S1 S2
        go_wp2_with fail
        go_ret
        exact ⟨rfl, hb.trans (hbel.mono hG)⟩
      · have hn := neS (S := B) (by omega)
        have hne : wOk B = B.data.toList.all atm := by
          unfold wOk wordOk
          have : B.data.toList.isEmpty = false := by rw [← Lib.toList_data]; exact hn
          rw [this]; rfl
        rw [hne] at S1 S2
        clear hne h0
        go_wp2_with fail
        go_loopg [17] B.size (fun g2 qv wy => ∃ q : Nat, q + g2 = B.size ∧ qv = .int .i64 q ∧ Below w1.heap.size w1 wy ∧ Hid ((tl B q).all atm = B.data.toList.all atm))
        case atStart => exact ⟨0, by omega, by first | rfl | trivial, hbel, by rw [tl_zero]; exact rfl⟩
        case round =>
          clear hc hbel
          obtain ⟨q, hqg, rfl, hbel, hrel⟩ := hrel
          by_cases hq : q < B.size
          · obtain ⟨t1, t2⟩ := all_at hq hrel.out
            cases hp : atm B[q] with
            | true =>
              have hd := Lib.hid (t1 hp)
              have hA := fun w => HA.out B[q] w
              rw [hp] at hA
              have HA2 := Lib.hid hA
              clear t1 t2 hp hA hrel
              go_wp2_with (go_at_call 64; (with_reducible refine (HA2.out _).mono ?_); rintro e w2 ⟨rfl, hb2⟩)
              go_roundg (B.size - (q + 1))
              case rel => exact ⟨q + 1, by omega, by go_num, hbel.trans (hb2.mono hbel.size), hd⟩
              case measure => omega
            | false =>
              obtain rfl := S2.out (t2 hp)
              have hA := fun w => HA.out B[q] w
              rw [hp] at hA
              have HA2 := Lib.hid hA
              clear t1 t2 hp hA hrel S1 S2
              go_wp2_with (go_at_call 64; (with_reducible refine (HA2.out _).mono ?_); rintro e w2 ⟨rfl, hb2⟩)
              go_ret
              exact ⟨rfl, hb.trans ((hbel.trans (hb2.mono hbel.size)).mono hG)⟩
          · have hall : B.data.toList.all atm = true := by
              have e := hrel.out
              rw [tl_end B q (by omega)] at e
              exact e.symm
            have hd := Lib.hid (S1.out hall)
            clear hrel S1 S2 hall
            go_wp2_with fail
            go_roundg (WS.length - (k + 1))
            case rel => exact ⟨k + 1, by omega, by go_num, hbel, hd.out⟩
            case measure => omega
    · obtain rfl := all_end hrel hlt
      clear hrel
      go_wp2_with fail
      go_ret
      exact ⟨rfl, hb.trans (hbel.mono hG)⟩
end Go.Proofs.YtilccofdphohiaaGreatDoor
