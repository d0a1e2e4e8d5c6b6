/- Walks: strings.ContainsAny with three ASCII bytes, at any short text. Walks: strings.ContainsAny with three ASCII bytes. Walks: addr: Right. -/
import Derived.Test.YtilccofdphohiaaGreatDoorAdW2
import Derived.Test.YtilccofdphohiaaGreatDoorP30
namespace Go.Proofs.YtilccofdphohiaaGreatDoor
open Go.RowKit Pk Ad Fo U8 Su

theorem iter_posA {w : World} {k p : Nat} {s : ByteArray} (h : w.heap[k]? = some (.stringIter s p)) : w.iterPos k = p := by unfold World.iterPos; rw [h]
def pA (c : UInt8) : Bool := c == 91 || c == 93 || c == 92
def brk : ByteArray := ⟨#[91, 93, 92]⟩
theorem pA_high {c : UInt8} (h : 128 ≤ c.toNat) : pA c = false := by
  have : ∀ d : UInt8, d.toNat < 128 → c ≠ d := fun d hd e => by rw [e] at h; omega
  unfold pA
  rw [beq_eq_false_iff_ne.2 (this 91 (by decide)), beq_eq_false_iff_ne.2 (this 93 (by decide)), beq_eq_false_iff_ne.2 (this 92 (by decide))]; rfl
theorem at_tl {s : ByteArray} {p : Nat} (hp : p < s.size) : at' (tl s p) 0 = s[p].toNat := by
  rw [tl_cons s p hp]; rfl
theorem tl_dropA (s : ByteArray) (p k : Nat) : (tl s p).drop k = tl s (p + k) := by unfold tl; rw [List.drop_drop]
theorem any_lo {s : ByteArray} {p : Nat} (hp : p < s.size) (h : s[p].toNat < 128) : dec (tl s p) = (s[p].toNat, 1) ∧ (tl s p).any pA = (pA s[p] || (tl s (p + 1)).any pA) := by
  rw [tl_cons s p hp]
  exact ⟨dec_asc h _, List.any_cons ..⟩
theorem any_hi {s : ByteArray} {p : Nat} (hp : p < s.size) (h : 128 ≤ s[p].toNat) : 128 ≤ (dec (tl s p)).1 ∧ Sca (dec (tl s p)).1 ∧ (tl s p).any pA = (tl s (p + (dec (tl s p)).2)).any pA := by
  have hne := tl_ne hp
  have ha : 128 ≤ at' (tl s p) 0 := by rw [at_tl hp]; exact h
  have h1 := dec_high hne ha
  have h2 := dec_rune _ hne
  refine ⟨h1, h2, ?_⟩
  have hh : ((tl s p).take (dec (tl s p)).2).any pA = false := by
    by_cases ho : Okay (tl s p)
    · obtain ⟨-, e⟩ := enc_dec _ hne ho
      rw [← e, List.any_eq_false]
      intro c hc
      rw [pA_high (enc_high _ h2 h1 c hc)]; decide
    · rw [dec_bad _ ho, tl_cons s p hp]
      show [s[p]].any pA = false
      simp [pA_high h]
  conv => lhs; rw [← List.take_append_drop (dec (tl s p)).2 (tl s p)]
  rw [List.any_append, hh, tl_dropA]; rfl
theorem asc_iter {S : ByteArray} (hS : Ascii S) {p : Nat} (hp : p < S.size) : dec (tl S p) = (S[p].toNat, 1) := by
  rw [tl_cons S p hp]; exact dec_asc (hS p hp) _
set_option maxHeartbeats 1000000 in
set_option maxRecDepth 100000 in
theorem irune_bad (S : ByteArray) (w : World) (hS : Ascii S) (hz : S.size ≤ 1000) : Calls Tryz.prog 88 #[.string S, .int .i32 65533] w fun e w' => e = .returned (.int .i64 (-1)) ∧ Below w.heap.size w w' := by
  have HS := Lib.hid hS
  clear hS
  go_enter Tryz.func88, Tryz.ntmps88
  go_wp2_with fail
  go_loopw [5, 6] (fun _ _ wr => ∃ pos : Nat, wr.heap[w.heap.size]? = some (.stringIter S pos) ∧ Below w.heap.size w wr ∧ pos ≤ S.size) (fun _ _ wr => S.size - wr.iterPos w.heap.size)
  case atStart =>
    have h0 := World.iter_heap w S 0
    have h1 : (w.iter S 0).heap[w.heap.size]? = some (.stringIter S 0) := by simpa using h0
    exact ⟨0, h1, (Below.refl _ _).alloc (Nat.le_refl _) _, by omega⟩
  case round =>
    obtain ⟨pos, hit, hbel, hpos⟩ := hrel
    have hsz := hbel.size
    have hlt := lt_of_block hit
    by_cases hp : pos < S.size
    · have hnx0 := fun ty => Lib.run_next_any_at (P := Tryz.prog) wr w.heap.size S pos ty hit hp
      rw [dec_eq, asc_iter HS.out hp] at hnx0
      have hk := HS.out pos hp
      obtain ⟨W2, hW2⟩ : ∃ W2, W2 = wr.iterAt w.heap.size S (pos + 1) := ⟨_, rfl⟩
      have hit2 : W2.heap[w.heap.size]? = some (.stringIter S (pos + 1)) := by rw [hW2]; exact Lib.iterAt_heap _ _ _ _ _ hit
      have hbel2 : Below w.heap.size w W2 := by rw [hW2]; exact Lib.below_iterAt hbel (by omega) _ _
      have hnx : ∀ ty, (Instr.next (.pointer (some ⟨w.heap.size, 0, none⟩)) true ty).run Tryz.prog wr = .ok (.tuple #[.bool true, .int .i64 pos, .int .i32 S[pos].toNat]) W2 := by rw [hW2]; exact hnx0
      have HIP := Lib.hid (iter_posA hit)
      have q1 : ((S[pos].toNat : Int) == 65533) = false := beq_eq_false_iff_ne.2 (by omega)
      clear hnx0 hW2 hit hbel hk
      go_wp2_with fail
      go_roundw
      case rel => exact ⟨pos + 1, hit2, hbel2, by omega⟩
      case measure => rw [HIP.out, iter_posA hit2]; omega
    · have hnx : ∀ ty, (Instr.next (.pointer (some ⟨w.heap.size, 0, none⟩)) true ty).run Tryz.prog wr = _ := fun ty => Lib.run_next_end_at wr w.heap.size S pos ty hit hp
      go_wp2_with fail
      go_ret
      exact ⟨rfl, hbel⟩
/-- IndexRune in ASCII text, at any rune -/
theorem irune_asc (S : ByteArray) (r : Nat) (w : World) (hS : Ascii S) (hz : S.size ≤ 1000) (hv : Sca r) : Calls Tryz.prog 88 #[.string S, .int .i32 r] w fun e w' => e = .returned (.int .i64 (if r < 128 then Lib.indexByte S.data.toList r.toUInt8 else -1)) ∧ Below w.heap.size w w' := by
  by_cases h1 : r < 128
  · rw [if_pos h1]
    have := Tryz.strings_IndexRune_ascii S r w (by omega) (by omega)
    refine this.mono ?_
    rintro e w' ⟨rfl, rfl⟩
    exact ⟨by simp, Below.refl _ _⟩
  · rw [if_neg h1]
    by_cases h2 : r = 65533
    · subst h2
      exact irune_bad S w hS hz
    · exact irune_hi S r w hS hz (by omega) hv h2
end Go.Proofs.YtilccofdphohiaaGreatDoor
namespace Go.Proofs.YtilccofdphohiaaGreatDoor
open Go.RowKit Pk Ad Fo U8 Su

theorem brk_ix (c : UInt8) (h : c.toNat < 128) : decide (0 ≤ (if c.toNat < 128 then Lib.indexByte brk.data.toList c.toNat.toUInt8 else -1)) = pA c := by
  rw [if_pos h]
  have h0 : ∀ n : Nat, n < 128 → decide (0 ≤ Lib.indexByte brk.data.toList n.toUInt8) = pA n.toUInt8 := by decide +kernel
  have := h0 c.toNat h
  rw [show c.toNat.toUInt8 = c by simp] at this ⊢
  exact this
theorem brk_asc : Ascii brk := by
  intro j h
  have h : j < 3 := h
  match j, h with
  | 0, _ => exact (show (91 : UInt8).toNat < 128 by decide)
  | 1, _ => exact (show (93 : UInt8).toNat < 128 by decide)
  | 2, _ => exact (show (92 : UInt8).toNat < 128 by decide)
def AnyIs (b : Bool) (w : World) (e : Ending) (w' : World) : Prop := (∃ i : Int, e = .returned (.int .i64 i) ∧ decide (0 ≤ i) = b) ∧ Below w.heap.size w w'
set_option maxHeartbeats 1000000 in
set_option maxRecDepth 100000 in
theorem iany_short (s C : ByteArray) (w : World) (h8 : s.size ≤ 8) (hC : C = brk) : Calls Tryz.prog 62 #[.string s, .string C] w (AnyIs (s.data.toList.any pA) w) := by
  obtain ⟨X, hX⟩ : ∃ X, X = s.data.toList.any pA := ⟨_, rfl⟩
  have hst : Hid ((tl s 0).any pA = X) := by show _ = _; rw [tl_zero, hX]
  rw [← hX]
  clear hX
  have hR := fun (r : Nat) W (hv : Sca r) => irune_asc C r W (by rw [hC]; exact brk_asc) (by rw [hC]; decide) hv
  have hix := fun (c : UInt8) (h : c.toNat < 128) => brk_ix c h
  rw [← hC] at hix
  have hCz : C.size = 3 := by rw [hC]; rfl
  have hne := neS (S := C) (by omega)
  have q0 : ((C.size : Int) == 1) = false := beq_eq_false_iff_ne.2 (by omega)
  have HR := Lib.hid hR
  have HIX := Lib.hid hix
  have HC := Lib.hid hC
  have hU := fun W => Tryz.strings_shouldUseASCIISet (s.size : Int) W
  have hu8 : decide ((8 : Int) < (s.size : Int)) = false := decide_eq_false (by omega)
  have hu9 : decide ((s.size : Int) > 8) = false := decide_eq_false (by omega)
  have HU := Lib.hid hU
  clear hR hix hC hU hCz
  go_enter Tryz.func62, Tryz.ntmps62
  go_wp2_with (go_at_call 89; (with_reducible refine (HU.out _).mono ?_); rintro e w ⟨rfl, rfl⟩)
  go_loopw [9, 10] (fun _ _ wr => ∃ pos : Nat, wr.heap[w.heap.size]? = some (.stringIter s pos) ∧ Below w.heap.size w wr ∧ pos ≤ s.size ∧ Hid ((tl s pos).any pA = X)) (fun _ _ wr => s.size - wr.iterPos w.heap.size)
  case atStart =>
    have h0 := World.iter_heap w s 0
    have h1 : (w.iter s 0).heap[w.heap.size]? = some (.stringIter s 0) := by simpa using h0
    exact ⟨0, h1, (Below.refl _ _).alloc (Nat.le_refl _) _, by omega, hst⟩
  case round =>
    clear hst
    obtain ⟨pos, hit, hbel, hpos, hrel⟩ := hrel
    have hsz := hbel.size
    by_cases hp : pos < s.size
    · obtain ⟨wd1, wd2, wd3⟩ := width_le hp
      have hnx0 := fun ty => Lib.run_next_any_at (P := Tryz.prog) wr w.heap.size s pos ty hit hp
      rw [dec_eq] at hnx0
      have hlo := fun h => any_lo hp h
      have hhi := fun h => any_hi hp h
      have hsc := dec_rune _ (tl_ne hp)
      obtain ⟨R, hRR⟩ : ∃ R, R = dec (tl s pos) := ⟨_, rfl⟩
      rw [← hRR] at wd1 wd2 wd3 hnx0 hlo hhi hsc
      obtain ⟨W2, hW2⟩ : ∃ W2, W2 = wr.iterAt w.heap.size s (pos + R.2) := ⟨_, rfl⟩
      have hit2 : W2.heap[w.heap.size]? = some (.stringIter s (pos + R.2)) := by rw [hW2]; exact Lib.iterAt_heap _ _ _ _ _ hit
      have hbel2 : Below w.heap.size w W2 := by rw [hW2]; exact Lib.below_iterAt hbel (by omega) _ _
      have hlt2 := lt_of_block hit2
      have hnx : ∀ ty, (Instr.next (.pointer (some ⟨w.heap.size, 0, none⟩)) true ty).run Tryz.prog wr = .ok (.tuple #[.bool true, .int .i64 pos, .int .i32 R.1]) W2 := by rw [hW2]; exact hnx0
      have HIP := Lib.hid (iter_posA hit)
      obtain ⟨v, hv⟩ : ∃ v : Int, v = if R.1 < 128 then Lib.indexByte C.data.toList R.1.toUInt8 else -1 := ⟨_, rfl⟩
      have hcall := HR.out R.1 W2 hsc
      rw [← hv] at hcall
      have hx := hrel.out
      have hgo : (decide (0 ≤ v) = true → X = true) ∧ (decide (0 ≤ v) = false → (tl s (pos + R.2)).any pA = X) := by
        by_cases h : s[pos].toNat < 128
        · obtain ⟨e1, e2⟩ := hlo h
          have e3 := HIX.out s[pos] h
          rw [e1] at hv ⊢
          rw [← hv] at e3
          rw [e2] at hx
          refine ⟨fun e => ?_, fun e => ?_⟩
          · rw [← e3, e, Bool.true_or] at hx; exact hx.symm
          · rw [← e3, e, Bool.false_or] at hx; exact hx
        · obtain ⟨e1, -, e2⟩ := hhi (by omega)
          rw [if_neg (by omega)] at hv
          refine ⟨fun e => ?_, fun e => ?_⟩
          · rw [hv] at e; exact absurd e (by decide)
          · rw [← e2]; exact hx
      have HCALL := Lib.hid hcall
      clear hnx0 hW2 hit hbel hlo hhi hRR hv hrel hx hcall hsc
      by_cases h0 : 0 ≤ v
      · have hX := hgo.1 (decide_eq_true h0)
        have q1 : decide (v ≥ 0) = true := decide_eq_true h0
        clear hgo
        go_wp2_with (go_at_call 88; (with_reducible refine HCALL.out.mono ?_); rintro e w3 ⟨rfl, hb3⟩)
        go_ret
        exact ⟨⟨_, rfl, by rw [hX]; exact decide_eq_true (by omega)⟩, hbel2.trans (hb3.mono (Nat.le_of_lt hlt2))⟩
      · have hX := Lib.hid (hgo.2 (decide_eq_false h0))
        have q1 : decide (v ≥ 0) = false := decide_eq_false h0
        clear hgo
        go_wp2_with (go_at_call 88; (with_reducible refine HCALL.out.mono ?_); rintro e w3 ⟨rfl, hb3⟩; have hit3 := (hb3.block _ hlt2).trans hit2)
        go_roundw
        case rel => exact ⟨pos + R.2, hit3, hbel2.trans (hb3.mono (Nat.le_of_lt hlt2)), by omega, hX⟩
        case measure => rw [HIP.out, iter_posA hit3]; omega
    · have hnx : ∀ ty, (Instr.next (.pointer (some ⟨w.heap.size, 0, none⟩)) true ty).run Tryz.prog wr = _ := fun ty => Lib.run_next_end_at wr w.heap.size s pos ty hit hp
      have hx := hrel.out
      rw [show (tl s pos).any pA = false by rw [tl_end s pos (by omega)]; rfl] at hx
      subst hx
      clear hrel
      go_wp2_with fail
      go_ret
      exact ⟨⟨_, rfl, by decide⟩, hbel⟩
theorem brk_has (b : UInt8) : brk.data.toList.contains b = pA b := by
  have h0 : ∀ n : Nat, n < 256 → brk.data.toList.contains (UInt8.ofNat n) = pA (UInt8.ofNat n) := by decide +kernel
  have := h0 b.toNat b.toNat_lt
  rwa [UInt8.ofNat_toNat] at this
theorem any_ix : ∀ l : List UInt8, decide (0 ≤ Lib.indexAny l brk.data.toList) = l.any pA
  | [] => rfl
  | b :: l => by
    have ih := any_ix l
    have hge := Lib.indexAny_ge brk.data.toList l
    rw [Lib.indexAny, brk_has, List.any_cons, ← ih]
    cases pA b with
    | true => rfl
    | false =>
      rw [if_neg (by decide), Bool.false_or]
      by_cases h : Lib.indexAny l brk.data.toList = -1
      · rw [if_pos (beq_iff_eq.2 h), h]
      · rw [if_neg (fun e => h (beq_iff_eq.1 e))]
        exact decide_eq_decide.2 (by omega)
theorem iany_any (s : ByteArray) (w : World) (hs : s.size ≤ 1000000) : Calls Tryz.prog 62 #[.string s, .string brk] w (AnyIs (s.data.toList.any pA) w) := by
  by_cases h8 : s.size ≤ 8
  · exact iany_short s brk w h8 rfl
  · have hz : (Tryz.prog.info? 109).map (fun i => (i.zero, i.size)) = some (some (.agg (Array.replicate 256 (.bool false))), 256) := by kernel_rfl
    have := Tryz.strings_IndexAny_long (zero_of_info hz).1 s brk w (by decide) (by omega) (by omega) (by decide) (fun j b hj => by
      obtain ⟨h1, h2⟩ := List.getElem?_eq_some_iff.1 hj
      rw [← h2]; exact brk_asc j h1)
    refine this.mono ?_
    rintro e w' ⟨rfl, rfl⟩
    exact ⟨⟨_, rfl, any_ix _⟩, ((Below.refl _ _).alloc (Nat.le_refl _) _).alloc (heap_size_alloc_le _ _) _⟩
set_option maxHeartbeats 1000000 in
theorem cany_any (s : ByteArray) (w : World) (hs : s.size ≤ 1000000) : Calls Tryz.prog 37 #[.string s, .string ⟨#[91, 93, 92]⟩] w fun e w' => e = .returned (.bool (s.data.toList.any pA)) ∧ Below w.heap.size w w' := by
  have hI := iany_any s w hs
  have HI := Lib.hid hI
  clear hI
  have hb : (⟨#[91, 93, 92]⟩ : ByteArray) = brk := rfl
  rw [hb]
  generalize brk = C at *
  generalize s.data.toList.any pA = X at *
  clear hb
  go_enter Tryz.func37, Tryz.ntmps37
  go_wp2_with (go_at_call 62; (with_reducible refine HI.out.mono ?_); rintro e w1 ⟨⟨i, rfl, hi⟩, hb1⟩)
  go_ret
  exact ⟨rfl, hb1⟩
end Go.Proofs.YtilccofdphohiaaGreatDoor
namespace Go.Proofs.YtilccofdphohiaaGreatDoor
open Go.RowKit Pk Ad Tk Fo Su

theorem dom_pre {d : List UInt8} (h : Lib.hasPrefix d [91] = false) : domOk d = dotted d := by
  unfold domOk
  split
  · rename_i r
    simp [Lib.hasPrefix, List.isPrefixOf] at h
  · rfl
theorem dom_in {d : List UInt8} (h : Lib.hasPrefix d [91] = true) : domOk d = if Lib.hasSuffix (Lib.trimPrefix d [91]) [93] = true then plainA 33 (Lib.trimSuffix (Lib.trimPrefix d [91]) [93]) && !((Lib.trimSuffix (Lib.trimPrefix d [91]) [93]).any pA) else false := by
  have ht : Lib.trimPrefix d [91] = d.drop 1 := by unfold Lib.trimPrefix; rw [if_pos h]; rfl
  rw [ht]
  unfold Lib.hasPrefix at h
  cases d with
  | nil => cases h
  | cons c r =>
    have hc : c = 91 := by simp [List.isPrefixOf] at h; exact h.symm
    subst hc
    show domOk (91 :: r) = if Lib.hasSuffix r [93] = true then _ else false
    unfold domOk
    show (match r.getLast? with | some 93 => plainA 33 r.dropLast && !(r.dropLast.any fun c => c == 91 || c == 93 || c == 92) | _ => false) = _
    by_cases hs : Lib.hasSuffix r [93] = true
    · rw [if_pos hs]
      have hsf : [93] <:+ r := by unfold Lib.hasSuffix at hs; exact List.isSuffixOf_iff_suffix.1 hs
      obtain ⟨x, rfl⟩ := hsf
      have e1 : (x ++ [(93 : UInt8)]).getLast? = some 93 := by simp
      have e2 : (x ++ [(93 : UInt8)]).dropLast = x := by simp
      have e3 : Lib.trimSuffix (x ++ [93]) [93] = x := by
        unfold Lib.trimSuffix
        rw [if_pos hs]
        simp
      show _ = (plainA 33 (Lib.trimSuffix (x ++ [93]) [93]) && !((Lib.trimSuffix (x ++ [93]) [93]).any pA))
      rw [e1, e2, e3]
      rfl
    · rw [if_neg hs]
      split
      · rename_i hl
        exfalso
        apply hs
        unfold Lib.hasSuffix
        rw [List.isSuffixOf_iff_suffix]
        have hne : r ≠ [] := fun e => by rw [e] at hl; cases hl
        rw [List.getLast?_eq_some_getLast hne] at hl
        injection hl with hl
        refine ⟨r.dropLast, ?_⟩
        have := List.dropLast_concat_getLast hne
        rw [hl] at this
        exact this
      · rfl
theorem dL_appU (A B : ByteArray) : (A ++ B).data.toList = A.data.toList ++ B.data.toList := by simp [ByteArray.data_append]
theorem rightA_of (nm lo dm : List UInt8) : rightA ⟨nm, lo, dm⟩ = (decide (1 ≤ lo.length) && (decide (lo.length ≤ 64) && (decide (dm.length ≤ 255) && (decide (nm.length ≤ 200) && (plainA 32 (lo ++ nm) && domOk dm))))) := rfl
set_option maxHeartbeats 4000000 in
set_option maxRecDepth 100000 in
theorem right_any (nm lo dm : ByteArray) (w : World) (m : Int) (hm : w.cell? ⟨0, 0, none⟩ = some (.int .i64 m)) (h1 : nm.size ≤ 1000000) (h2 : lo.size ≤ 1000000) (h3 : dm.size ≤ 1000000) :
    Calls Tryz.prog 18 #[.agg #[.string nm, .string lo, .string dm]] w fun e w' => e = .returned (.bool (rightA ⟨nm.data.toList, lo.data.toList, dm.data.toList⟩)) ∧ Below w.heap.size w w' := by
  obtain ⟨X, hX⟩ : ∃ X, X = rightA ⟨nm.data.toList, lo.data.toList, dm.data.toList⟩ := ⟨_, rfl⟩
  rw [← hX]
  rw [rightA_of] at hX
  simp only [dataL] at hX
  have tb : Below w.heap.size w (w.alloc (.cells #[.string nm, .string lo, .string dm] 34)) := (Below.refl _ _).alloc (Nat.le_refl _) _
  have kk := heap_alloc_new w (.cells #[.string nm, .string lo, .string dm] 34)
  have y0 := Lib.cell_of_heap kk 0
  have y1 := Lib.cell_of_heap kk 1
  have y2 := Lib.cell_of_heap kk 2
  have hP : ∀ W, Calls Tryz.prog 34 #[.string (lo ++ nm), .int .u8 32] W fun e w' => e = .returned (.bool (plainA 32 (lo ++ nm).data.toList)) ∧ w' = W := fun W => aplain_any (lo ++ nm) 32 W (by decide) (by rw [ByteArray.size_append]; omega)
  rw [dL_appU] at hP
  have hC := fun W => Tryz.strings_CutPrefix dm ⟨#[91]⟩ W
  rw [show (⟨#[91]⟩ : ByteArray).data.toList = [91] from rfl] at hC
  have hin : (Lib.hasPrefix dm.data.toList [91] = true → domOk dm.data.toList = if Lib.hasSuffix (Lib.trimPrefix dm.data.toList [91]) [93] = true then plainA 33 (Lib.trimSuffix (Lib.trimPrefix dm.data.toList [91]) [93]) && !((Lib.trimSuffix (Lib.trimPrefix dm.data.toList [91]) [93]).any pA) else false) := dom_in
  have hpre : Lib.hasPrefix dm.data.toList [91] = false → domOk dm.data.toList = dotted dm.data.toList := dom_pre
  have htl : (Lib.trimPrefix dm.data.toList [91]).length ≤ dm.size := by
    unfold Lib.trimPrefix
    split
    · rw [List.length_drop, dataL]; omega
    · rw [dataL]; omega
  obtain ⟨I, hI1, hI2, hI3⟩ := arrE (Lib.trimPrefix dm.data.toList [91])
  rw [← hI1] at hC
  rw [← hI2] at hin
  have hS := fun W => Tryz.strings_CutSuffix I ⟨#[93]⟩ W (by omega)
  rw [show (⟨#[93]⟩ : ByteArray).data.toList = [93] from rfl] at hS
  have hsl : (Lib.trimSuffix I.data.toList [93]).length ≤ dm.size := by
    unfold Lib.trimSuffix
    split
    · rw [List.length_take, dataL]; omega
    · rw [dataL]; omega
  obtain ⟨J, hJ1, hJ2, hJ3⟩ := arrE (Lib.trimSuffix I.data.toList [93])
  rw [← hJ1] at hS
  rw [← hJ2] at hin
  have hP2 : ∀ W, Calls Tryz.prog 34 #[.string J, .int .u8 33] W fun e w' => e = .returned (.bool (plainA 33 J.data.toList)) ∧ w' = W := fun W => aplain_any J 33 W (by decide) (by omega)
  have hA := fun W => cany_any J W (by omega)
  have hD := fun W hW => dotted_any dm W m hW (by omega)
  have HM := Lib.hid hm
  clear hI1 hI2 hI3 hJ1 hJ2 hJ3 hm htl hsl
  generalize plainA 32 (lo.data.toList ++ nm.data.toList) = b5 at *
  generalize domOk dm.data.toList = bd at *
  generalize Lib.hasPrefix dm.data.toList [91] = bp at *
  generalize Lib.hasSuffix I.data.toList [93] = bs at *
  generalize plainA 33 J.data.toList = b33 at *
  generalize J.data.toList.any pA = ba at *
  generalize dotted dm.data.toList = bt at *
  have HP := Lib.hid hP
  have HC := Lib.hid hC
  have HS := Lib.hid hS
  have HP2 := Lib.hid hP2
  have HA := Lib.hid hA
  have HD := Lib.hid hD
  clear hP hC hS hP2 hA hD
  by_cases c1 : lo.size < 1
  · obtain rfl : X = false := by rw [hX, decide_eq_false (by omega)]; rfl
    have q1 : decide ((lo.size : Int) < 1) = true := decide_eq_true (by omega)
    have q1' : decide (lo.size < 1) = true := decide_eq_true c1
    clear hX hin hpre c1
    go_enter Tryz.func18, Tryz.ntmps18
    go_wp2_with (first
      | (go_at_call 34; go_loud ((first | (with_reducible refine (HP.out _).mono ?_) | (with_reducible refine (HP2.out _).mono ?_)); rintro e w1 ⟨rfl, rfl⟩))
      | (go_at_call 35; go_loud ((with_reducible refine (HC.out _).mono ?_); rintro e w1 ⟨rfl, rfl⟩))
      | (go_at_call 36; go_loud ((with_reducible refine (HS.out _).mono ?_); rintro e w1 ⟨rfl, rfl⟩))
      | (go_at_call 37; go_loud ((with_reducible refine (HA.out _).mono ?_); rintro e w1 ⟨rfl, hb1⟩; have tb := tb.trans (hb1.mono tb.size)))
      | (go_at_call 38; go_loud ((with_reducible refine (HD.out _ (cell_later tb HM.out)).mono ?_); rintro e w1 ⟨rfl, hb1⟩; have tb := tb.trans (hb1.mono tb.size))))
    go_ret
    exact ⟨by first | rfl | (rw [HX.out]; rfl) | (rw [HX.out]), tb⟩
  · have q1 : decide ((lo.size : Int) < 1) = false := decide_eq_false (by omega)
    have q1' : decide (lo.size < 1) = false := decide_eq_false c1
    rw [decide_eq_true (by omega : 1 ≤ lo.size), Bool.true_and] at hX
    by_cases c2 : lo.size > 64
    · obtain rfl : X = false := by rw [hX, decide_eq_false (by omega)]; rfl
      have q2 : decide ((lo.size : Int) > 64) = true := decide_eq_true (by omega)
      have q2' : decide ((64 : Int) < (lo.size : Int)) = true := decide_eq_true (by omega)
      clear hX hin hpre c2
      go_enter Tryz.func18, Tryz.ntmps18
      go_wp2_with (first
        | (go_at_call 34; go_loud ((first | (with_reducible refine (HP.out _).mono ?_) | (with_reducible refine (HP2.out _).mono ?_)); rintro e w1 ⟨rfl, rfl⟩))
        | (go_at_call 35; go_loud ((with_reducible refine (HC.out _).mono ?_); rintro e w1 ⟨rfl, rfl⟩))
        | (go_at_call 36; go_loud ((with_reducible refine (HS.out _).mono ?_); rintro e w1 ⟨rfl, rfl⟩))
        | (go_at_call 37; go_loud ((with_reducible refine (HA.out _).mono ?_); rintro e w1 ⟨rfl, hb1⟩; have tb := tb.trans (hb1.mono tb.size)))
        | (go_at_call 38; go_loud ((with_reducible refine (HD.out _ (cell_later tb HM.out)).mono ?_); rintro e w1 ⟨rfl, hb1⟩; have tb := tb.trans (hb1.mono tb.size))))
      go_ret
      exact ⟨by first | rfl | (rw [HX.out]; rfl) | (rw [HX.out]), tb⟩
    · have q2 : decide ((lo.size : Int) > 64) = false := decide_eq_false (by omega)
      have q2' : decide ((64 : Int) < (lo.size : Int)) = false := decide_eq_false (by omega)
      rw [decide_eq_true (by omega : lo.size ≤ 64), Bool.true_and] at hX
      by_cases c3 : dm.size > 255
      · obtain rfl : X = false := by rw [hX, decide_eq_false (by omega)]; rfl
        have q3 : decide ((dm.size : Int) > 255) = true := decide_eq_true (by omega)
        have q3' : decide ((255 : Int) < (dm.size : Int)) = true := decide_eq_true (by omega)
        clear hX hin hpre c3
        go_enter Tryz.func18, Tryz.ntmps18
        go_wp2_with (first
          | (go_at_call 34; go_loud ((first | (with_reducible refine (HP.out _).mono ?_) | (with_reducible refine (HP2.out _).mono ?_)); rintro e w1 ⟨rfl, rfl⟩))
          | (go_at_call 35; go_loud ((with_reducible refine (HC.out _).mono ?_); rintro e w1 ⟨rfl, rfl⟩))
          | (go_at_call 36; go_loud ((with_reducible refine (HS.out _).mono ?_); rintro e w1 ⟨rfl, rfl⟩))
          | (go_at_call 37; go_loud ((with_reducible refine (HA.out _).mono ?_); rintro e w1 ⟨rfl, hb1⟩; have tb := tb.trans (hb1.mono tb.size)))
          | (go_at_call 38; go_loud ((with_reducible refine (HD.out _ (cell_later tb HM.out)).mono ?_); rintro e w1 ⟨rfl, hb1⟩; have tb := tb.trans (hb1.mono tb.size))))
        go_ret
        exact ⟨by first | rfl | (rw [HX.out]; rfl) | (rw [HX.out]), tb⟩
      · have q3 : decide ((dm.size : Int) > 255) = false := decide_eq_false (by omega)
        have q3' : decide ((255 : Int) < (dm.size : Int)) = false := decide_eq_false (by omega)
        rw [decide_eq_true (by omega : dm.size ≤ 255), Bool.true_and] at hX
        by_cases c4 : nm.size > 200
        · obtain rfl : X = false := by rw [hX, decide_eq_false (by omega)]; rfl
          have q4 : decide ((nm.size : Int) > 200) = true := decide_eq_true (by omega)
          have q4' : decide ((200 : Int) < (nm.size : Int)) = true := decide_eq_true (by omega)
          clear hX hin hpre c4
          go_enter Tryz.func18, Tryz.ntmps18
          go_wp2_with (first
            | (go_at_call 34; go_loud ((first | (with_reducible refine (HP.out _).mono ?_) | (with_reducible refine (HP2.out _).mono ?_)); rintro e w1 ⟨rfl, rfl⟩))
            | (go_at_call 35; go_loud ((with_reducible refine (HC.out _).mono ?_); rintro e w1 ⟨rfl, rfl⟩))
            | (go_at_call 36; go_loud ((with_reducible refine (HS.out _).mono ?_); rintro e w1 ⟨rfl, rfl⟩))
            | (go_at_call 37; go_loud ((with_reducible refine (HA.out _).mono ?_); rintro e w1 ⟨rfl, hb1⟩; have tb := tb.trans (hb1.mono tb.size)))
            | (go_at_call 38; go_loud ((with_reducible refine (HD.out _ (cell_later tb HM.out)).mono ?_); rintro e w1 ⟨rfl, hb1⟩; have tb := tb.trans (hb1.mono tb.size))))
          go_ret
          exact ⟨by first | rfl | (rw [HX.out]; rfl) | (rw [HX.out]), tb⟩
        · have q4 : decide ((nm.size : Int) > 200) = false := decide_eq_false (by omega)
          have q4' : decide ((200 : Int) < (nm.size : Int)) = false := decide_eq_false (by omega)
          rw [decide_eq_true (by omega : nm.size ≤ 200), Bool.true_and] at hX
          cases b5 with
          | false =>
            obtain rfl : X = false := hX
            clear hin hpre
            go_enter Tryz.func18, Tryz.ntmps18
            go_wp2_with (first
              | (go_at_call 34; go_loud ((first | (with_reducible refine (HP.out _).mono ?_) | (with_reducible refine (HP2.out _).mono ?_)); rintro e w1 ⟨rfl, rfl⟩))
              | (go_at_call 35; go_loud ((with_reducible refine (HC.out _).mono ?_); rintro e w1 ⟨rfl, rfl⟩))
              | (go_at_call 36; go_loud ((with_reducible refine (HS.out _).mono ?_); rintro e w1 ⟨rfl, rfl⟩))
              | (go_at_call 37; go_loud ((with_reducible refine (HA.out _).mono ?_); rintro e w1 ⟨rfl, hb1⟩; have tb := tb.trans (hb1.mono tb.size)))
              | (go_at_call 38; go_loud ((with_reducible refine (HD.out _ (cell_later tb HM.out)).mono ?_); rintro e w1 ⟨rfl, hb1⟩; have tb := tb.trans (hb1.mono tb.size))))
            go_ret
            exact ⟨by first | rfl | (rw [HX.out]; rfl) | (rw [HX.out]), tb⟩
          | true =>
            rw [Bool.true_and] at hX
            cases bp with
            | false =>
              have HX := Lib.hid (hX.trans (hpre rfl))
              clear hX hin hpre
              go_enter Tryz.func18, Tryz.ntmps18
              go_wp2_with (first
                | (go_at_call 34; go_loud ((first | (with_reducible refine (HP.out _).mono ?_) | (with_reducible refine (HP2.out _).mono ?_)); rintro e w1 ⟨rfl, rfl⟩))
                | (go_at_call 35; go_loud ((with_reducible refine (HC.out _).mono ?_); rintro e w1 ⟨rfl, rfl⟩))
                | (go_at_call 36; go_loud ((with_reducible refine (HS.out _).mono ?_); rintro e w1 ⟨rfl, rfl⟩))
                | (go_at_call 37; go_loud ((with_reducible refine (HA.out _).mono ?_); rintro e w1 ⟨rfl, hb1⟩; have tb := tb.trans (hb1.mono tb.size)))
                | (go_at_call 38; go_loud ((with_reducible refine (HD.out _ (cell_later tb HM.out)).mono ?_); rintro e w1 ⟨rfl, hb1⟩; have tb := tb.trans (hb1.mono tb.size))))
              go_ret
              exact ⟨by first | rfl | (rw [HX.out]; rfl) | (rw [HX.out]), tb⟩
            | true =>
              replace hX := hX.trans (hin rfl)
              clear hin hpre
              cases bs with
              | false =>
                have hX0 : X = false := hX
                clear hX
                subst hX0
                go_enter Tryz.func18, Tryz.ntmps18
                go_wp2_with (first
                  | (go_at_call 34; go_loud ((first | (with_reducible refine (HP.out _).mono ?_) | (with_reducible refine (HP2.out _).mono ?_)); rintro e w1 ⟨rfl, rfl⟩))
                  | (go_at_call 35; go_loud ((with_reducible refine (HC.out _).mono ?_); rintro e w1 ⟨rfl, rfl⟩))
                  | (go_at_call 36; go_loud ((with_reducible refine (HS.out _).mono ?_); rintro e w1 ⟨rfl, rfl⟩))
                  | (go_at_call 37; go_loud ((with_reducible refine (HA.out _).mono ?_); rintro e w1 ⟨rfl, hb1⟩; have tb := tb.trans (hb1.mono tb.size)))
                  | (go_at_call 38; go_loud ((with_reducible refine (HD.out _ (cell_later tb HM.out)).mono ?_); rintro e w1 ⟨rfl, hb1⟩; have tb := tb.trans (hb1.mono tb.size))))
                go_ret
                exact ⟨by first | rfl | (rw [HX.out]; rfl) | (rw [HX.out]), tb⟩
              | true =>
                rw [if_pos rfl] at hX
                cases b33 with
                | false =>
                  have hX0 : X = false := hX
                  clear hX
                  subst hX0
                  go_enter Tryz.func18, Tryz.ntmps18
                  go_wp2_with (first
                    | (go_at_call 34; go_loud ((first | (with_reducible refine (HP.out _).mono ?_) | (with_reducible refine (HP2.out _).mono ?_)); rintro e w1 ⟨rfl, rfl⟩))
                    | (go_at_call 35; go_loud ((with_reducible refine (HC.out _).mono ?_); rintro e w1 ⟨rfl, rfl⟩))
                    | (go_at_call 36; go_loud ((with_reducible refine (HS.out _).mono ?_); rintro e w1 ⟨rfl, rfl⟩))
                    | (go_at_call 37; go_loud ((with_reducible refine (HA.out _).mono ?_); rintro e w1 ⟨rfl, hb1⟩; have tb := tb.trans (hb1.mono tb.size)))
                    | (go_at_call 38; go_loud ((with_reducible refine (HD.out _ (cell_later tb HM.out)).mono ?_); rintro e w1 ⟨rfl, hb1⟩; have tb := tb.trans (hb1.mono tb.size))))
                  go_ret
                  exact ⟨by first | rfl | (rw [HX.out]; rfl) | (rw [HX.out]), tb⟩
                | true =>
                  rw [Bool.true_and] at hX
                  have HX := Lib.hid hX
                  clear hX
                  go_enter Tryz.func18, Tryz.ntmps18
                  go_wp2_with (first
                    | (go_at_call 34; go_loud ((first | (with_reducible refine (HP.out _).mono ?_) | (with_reducible refine (HP2.out _).mono ?_)); rintro e w1 ⟨rfl, rfl⟩))
                    | (go_at_call 35; go_loud ((with_reducible refine (HC.out _).mono ?_); rintro e w1 ⟨rfl, rfl⟩))
                    | (go_at_call 36; go_loud ((with_reducible refine (HS.out _).mono ?_); rintro e w1 ⟨rfl, rfl⟩))
                    | (go_at_call 37; go_loud ((with_reducible refine (HA.out _).mono ?_); rintro e w1 ⟨rfl, hb1⟩; have tb := tb.trans (hb1.mono tb.size)))
                    | (go_at_call 38; go_loud ((with_reducible refine (HD.out _ (cell_later tb HM.out)).mono ?_); rintro e w1 ⟨rfl, hb1⟩; have tb := tb.trans (hb1.mono tb.size))))
                  go_ret
                  exact ⟨by first | rfl | (rw [HX.out]; rfl) | (rw [HX.out]), tb⟩
end Go.Proofs.YtilccofdphohiaaGreatDoor
