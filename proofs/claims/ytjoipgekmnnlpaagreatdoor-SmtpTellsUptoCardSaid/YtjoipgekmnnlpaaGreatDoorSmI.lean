/- Walks: strings.IndexAny and ContainsAny with the two blanks, at any text. -/
import Derived.Test.YtjoipgekmnnlpaaGreatDoorUtx
import Derived.Test.YtjoipgekmnnlpaaGreatDoorShelf
import Derived.Test.YtjoipgekmnnlpaaGreatDoorSmP
import Derived.Laws.Runes
import Derived.BigQuiet
import Derived.WalkMore
import Derived.Outline
namespace Sm
open Go U8
theorem dec_asc {c : UInt8} (h : c.toNat < 128) (r : List UInt8) : dec (c :: r) = (c.toNat, 1) := by
  unfold dec; rw [if_pos (by rw [at_cons0]; omega)]; rfl
theorem enc_high (n : Nat) (hs : Sca n) (h : 128 ≤ n) : ∀ c ∈ Lib.encodeRune (n : Int), 128 ≤ c.toNat := by
  unfold Sca at hs
  by_cases h2 : n < 2048
  · rw [enc_two n h h2]; intro c hc; simp only [List.mem_cons, List.not_mem_nil, or_false] at hc
    rcases hc with rfl | rfl <;> rw [UInt8.toNat_ofNat'] <;> omega
  · by_cases h3 : n < 65536
    · rw [enc_three n (by omega)]; intro c hc; simp only [List.mem_cons, List.not_mem_nil, or_false] at hc
      rcases hc with rfl | rfl | rfl <;> rw [UInt8.toNat_ofNat'] <;> omega
    · rw [enc_four n (by omega) (by omega)]; intro c hc; simp only [List.mem_cons, List.not_mem_nil, or_false] at hc
      rcases hc with rfl | rfl | rfl | rfl <;> rw [UInt8.toNat_ofNat'] <;> omega
theorem take_at0 {l : List UInt8} {n w : Nat} (h2 : [UInt8.ofNat n] = l.take w) (hw : 1 ≤ w) : at' l 0 = n % 256 := by
  cases l with
  | nil => simp at h2
  | cons a r =>
    obtain ⟨v, rfl⟩ : ∃ v, w = v + 1 := ⟨w - 1, by omega⟩
    rw [List.take_succ_cons] at h2
    injection h2 with h3 _
    rw [at_cons0, ← h3, UInt8.toNat_ofNat']
theorem dec_high {l : List UInt8} (hl : l ≠ []) (h : 128 ≤ at' l 0) : 128 ≤ (dec l).1 := by
  by_cases ho : Okay l
  · obtain ⟨h1, h2⟩ := enc_dec l hl ho
    rcases Nat.lt_or_ge (dec l).1 128 with h3 | h3
    · rw [enc_one _ h3] at h2
      have hw := (dec_width l hl).1
      have := take_at0 h2 hw
      omega
    · exact h3
  · rw [dec_bad l ho]; decide
end Sm
namespace Go.Proofs.YtjoipgekmnnlpaaGreatDoor
open Go.RowKit Pk U8 Sm

def Ascii (S : ByteArray) : Prop := ∀ (j : Nat) (h : j < S.size), S[j].toNat < 128
theorem ib_none (l : List UInt8) (c : UInt8) (h : ∀ x ∈ l, x ≠ c) : Lib.indexByte l c = -1 := by
  have h1 := Lib.indexByte_ge l c
  by_cases h2 : Lib.indexByte l c = -1
  · exact h2
  · obtain ⟨o, ho⟩ : ∃ o : Nat, Lib.indexByte l c = o := ⟨(Lib.indexByte l c).toNat, by omega⟩
    have := (Lib.indexByte_some ho).1
    exact absurd rfl (h c (List.mem_of_getElem? this))
theorem ibS (s : ByteArray) (c : Nat) (w : World) : Calls Tryz.prog 144 #[.string s, .int .u8 c] w fun e w' => e = .returned (.int .i64 (Lib.indexByte s.data.toList c.toUInt8)) ∧ w' = w := Tryz.strings_IndexByte s c w
theorem drewN_belowB (w : World) (n : Nat) : Below w.heap.size w (w.drewN n) := ⟨rfl, rfl, rfl, Nat.le_refl _, fun _ _ => rfl⟩
set_option maxHeartbeats 1000000 in
set_option maxRecDepth 1000000 in
theorem irune_hi (S : ByteArray) (r : Nat) (w : World) (hS : Ascii S) (hz : S.size ≤ 1000) (h1 : 128 ≤ r) (hv : Sca r) (h2 : r ≠ 65533) : Calls Tryz.prog 119 #[.string S, .int .i32 r] w fun e w' => e = .returned (.int .i64 (-1)) ∧ Below w.heap.size w w' := by
  have hval := (valid_iff r).2 hv
  obtain ⟨f1, f2, f3⟩ := encode_facts (r : Int) hval (by omega)
  have hcv := fun w => run_convert_int_string (P := Tryz.prog) w 21 9 .i32 (r : Int) (by kernel_rfl) Tryz.underlying9
  obtain ⟨L, hL⟩ : ∃ L, (Utf8.encode (r : Int)).size = L + 1 := ⟨(Utf8.encode (r : Int)).size - 1, by omega⟩
  generalize Utf8.encode (r : Int) = E at *
  have eL : (E.size : Int) - 1 = (L : Int) := by omega
  have hLE : L < E.size := by omega
  have hL4 : L ≤ 4 := by omega
  have eW : wrap64 (L : Int) = (L : Int) := by unfold wrap64; omega
  have HF : Hid (128 ≤ E[L].toNat) := by
    have h5 := f3 (by omega)
    have h6 : E.size - 1 = L := by omega
    simp only [h6] at h5
    exact h5
  have hV := fun w => Tryz.utf8_ValidRune (r : Int) w
  have hv2 : Lib.validRune (r : Int) = true := by
    unfold Lib.validRune
    unfold Sca at hv
    exact decide_eq_true (by omega)
  rw [hv2] at hV
  have HV := Lib.hid hV
  have HS := Lib.hid hS
  have ibE : ∀ L' (_ : L' < S.size) (w : World), Calls Tryz.prog 144 #[.string (S.extract (L + 1) S.size), .int .u8 E[L].toNat] w fun e w' => e = .returned (.int .i64 (-1)) ∧ w' = w := fun _ _ w => by
    have := ibS (S.extract (L + 1) S.size) E[L].toNat w
    rw [ib_none _ _ (fun x hx e => ?_)] at this
    · exact this
    · have h5 := HF.out
      have h6 : x.toNat = E[L].toNat := by
        rw [e]
        have := E[L].toNat_lt
        simp
      rw [ByteArray.data_extract] at hx
      have hx : x ∈ S.data := by
        rw [Array.toList_extract] at hx
        exact Array.mem_toList_iff.1 (List.mem_of_mem_drop (List.mem_of_mem_take (by simpa [List.extract_eq_take_drop] using hx)))
      obtain ⟨j, hj, rfl⟩ := Array.getElem_of_mem hx
      have := hS j hj
      have e9 : S[j].toNat = S.data[j].toNat := rfl
      omega
  have q1 : decide ((r : Int) < 128) = false := decide_eq_false (by omega)
  have q1' : decide (r < 128) = false := decide_eq_false (by omega)
  have q2 : ((r : Int) == 65533) = false := beq_eq_false_iff_ne.2 (by omega)
  clear hv hval hV hv2 hS f3 hL f1 f2
  go_enter Tryz.func119, Tryz.ntmps119
  go_wp2_with (go_at_call 145; (with_reducible refine (HV.out _).mono ?_); rintro e w1 ⟨rfl, rfl⟩)
  go_step3
  go_wp2_with fail
  go_loopw [9] (fun iv wr => iv = .int .i64 L ∧ Below w1.heap.size w1 wr) (fun _ _ => 0)
  case atStart => exact ⟨by first | rfl | rw [eL], Below.refl _ _⟩
  case round =>
    obtain ⟨rfl, hbel⟩ := hrel
    by_cases hlt : L < S.size
    · have k1 := HS.out L hlt
      have k2 : 128 ≤ E[L].toNat := HF.out
      have q3 : ((S[L].toNat : Int) != (E[L].toNat : Int)) = true := by rw [bne_iff_ne]; omega
      have HB := Lib.hid (fun w => ibE L hlt w)
      have u1 : (0 : Int) ≤ (L : Int) + 1 := by omega
      have u2 : (L : Int) + 1 ≤ (S.size : Int) := by omega
      have u3 : ((L : Int) + 1).toNat = L + 1 := by omega
      have u4 : IntKind.i64.wrap ((L : Int) + 1) = (L : Int) + 1 := by rw [IntKind.wrap_i64]; omega
      clear k1 k2
      go_wp2_with fail
      go_step3
      go_wp2_with fail
      go_quiet (fail)
      have hbq := hbel.trans ((drewN_belowB wr nq).mono hbel.size)
      generalize wr.drewN nq = wq at *
      go_wp2_with fail
      go_quiet ((go_at_call 144; go_loud (exact Calls.quiet_of_same ((HB.out _).mono fun _ _ h => ⟨h.1, h.2⟩))))
      go_wp2_with fail
      simp only [Exit.noGoto_ret]
      go_wp2_with fail
      simp only [Exit.noGoto_ret]
      go_wp2_with fail
      go_ret
      exact ⟨rfl, hbq.trans ((drewN_belowB wq nq).mono hbq.size)⟩
    · have hlt' : ¬ S.size > L := hlt
      go_wp2_with fail
      simp only [Exit.noGoto_ret]
      go_ret
      exact ⟨rfl, hbel⟩
theorem iter_posA {w : World} {k p : Nat} {s : ByteArray} (h : w.heap[k]? = some (.stringIter s p)) : w.iterPos k = p := by unfold World.iterPos; rw [h]
theorem at_tl {s : ByteArray} {p : Nat} (hp : p < s.size) : at' (tl s p) 0 = s[p].toNat := by
  rw [tl_cons s p hp]; rfl
theorem tl_dropA (s : ByteArray) (p k : Nat) : (tl s p).drop k = tl s (p + k) := by unfold tl; rw [List.drop_drop]
theorem asc_iter {S : ByteArray} (hS : Ascii S) {p : Nat} (hp : p < S.size) : dec (tl S p) = (S[p].toNat, 1) := by
  rw [tl_cons S p hp]; exact dec_asc (hS p hp) _
set_option maxHeartbeats 1000000 in
set_option maxRecDepth 100000 in
theorem irune_bad (S : ByteArray) (w : World) (hS : Ascii S) (hz : S.size ≤ 1000) : Calls Tryz.prog 119 #[.string S, .int .i32 65533] w fun e w' => e = .returned (.int .i64 (-1)) ∧ Below w.heap.size w w' := by
  have HS := Lib.hid hS
  clear hS
  go_enter Tryz.func119, Tryz.ntmps119
  go_wp2_with fail
  go_loopw [5, 6] (fun _ _ wr => ∃ pos : Nat, wr.heap[w.heap.size]? = some (.stringIter S pos) ∧ Below w.heap.size w wr ∧ pos ≤ S.size) (fun _ _ wr => S.size - wr.iterPos w.heap.size)
  case atStart =>
    have h0 := World.iter_heap w S 0
    have h1 : (w.iter S 0).heap[w.heap.size]? = some (.stringIter S 0) := by simpa using h0
    exact ⟨0, h1, (Below.refl _ _).alloc (Nat.le_refl _) _, by omega⟩
  case round =>
    obtain ⟨pos, hit, hbel, hpos⟩ := hrel
    have hsz := hbel.size
    have hlt := lt_of_block hit
    by_cases hp : pos < S.size
    · have hnx0 := fun ty => Lib.run_next_any_at (P := Tryz.prog) wr w.heap.size S pos ty hit hp
      rw [dec_eq, asc_iter HS.out hp] at hnx0
      have hk := HS.out pos hp
      obtain ⟨W2, hW2⟩ : ∃ W2, W2 = wr.iterAt w.heap.size S (pos + 1) := ⟨_, rfl⟩
      have hit2 : W2.heap[w.heap.size]? = some (.stringIter S (pos + 1)) := by rw [hW2]; exact Lib.iterAt_heap _ _ _ _ _ hit
      have hbel2 : Below w.heap.size w W2 := by rw [hW2]; exact Lib.below_iterAt hbel (by omega) _ _
      have hnx : ∀ ty, (Instr.next (.pointer (some ⟨w.heap.size, 0, none⟩)) true ty).run Tryz.prog wr = .ok (.tuple #[.bool true, .int .i64 pos, .int .i32 S[pos].toNat]) W2 := by rw [hW2]; exact hnx0
      have HIP := Lib.hid (iter_posA hit)
      have q1 : ((S[pos].toNat : Int) == 65533) = false := beq_eq_false_iff_ne.2 (by omega)
      clear hnx0 hW2 hit hbel hk
      go_wp2_with fail
      go_roundw
      case rel => exact ⟨pos + 1, hit2, hbel2, by omega⟩
      case measure => rw [HIP.out, iter_posA hit2]; omega
    · have hnx : ∀ ty, (Instr.next (.pointer (some ⟨w.heap.size, 0, none⟩)) true ty).run Tryz.prog wr = _ := fun ty => Lib.run_next_end_at wr w.heap.size S pos ty hit hp
      go_wp2_with fail
      go_ret
      exact ⟨rfl, hbel⟩
/-- IndexRune in ASCII text, at any rune -/
theorem irune_asc (S : ByteArray) (r : Nat) (w : World) (hS : Ascii S) (hz : S.size ≤ 1000) (hv : Sca r) : Calls Tryz.prog 119 #[.string S, .int .i32 r] w fun e w' => e = .returned (.int .i64 (if r < 128 then Lib.indexByte S.data.toList r.toUInt8 else -1)) ∧ Below w.heap.size w w' := by
  by_cases h1 : r < 128
  · rw [if_pos h1]
    have := Tryz.strings_IndexRune_ascii S r w (by omega) (by omega)
    refine this.mono ?_
    rintro e w' ⟨rfl, rfl⟩
    exact ⟨by simp, Below.refl _ _⟩
  · rw [if_neg h1]
    by_cases h2 : r = 65533
    · subst h2
      exact irune_bad S w hS hz
    · exact irune_hi S r w hS hz (by omega) hv h2

theorem blk_high {c : UInt8} (h : 128 ≤ c.toNat) : blk c = false := by
  have : ∀ d : UInt8, d.toNat < 128 → c ≠ d := fun d hd e => by rw [e] at h; omega
  unfold blk
  rw [beq_eq_false_iff_ne.2 (this 32 (by decide)), beq_eq_false_iff_ne.2 (this 9 (by decide))]; rfl
/-- how many bytes stand ahead of the first blank -/
def firstB (l : List UInt8) : Nat := (l.takeWhile fun c => !blk c).length
def ixW (l : List UInt8) : Int := if firstB l < l.length then (firstB l : Int) else -1
theorem firstB_skip : ∀ (a r : List UInt8), (∀ c ∈ a, blk c = false) → firstB (a ++ r) = a.length + firstB r
  | [], r, _ => by show firstB r = 0 + firstB r; omega
  | c :: a, r, h => by
    have ih := firstB_skip a r fun x hx => h x (by simp [hx])
    unfold firstB at *
    rw [List.cons_append, List.takeWhile_cons, h c (by simp)]
    show (List.takeWhile _ (a ++ r)).length + 1 = _
    rw [ih, List.length_cons]
    omega
theorem firstB_le (l : List UInt8) : firstB l ≤ l.length := (List.takeWhile_sublist _).length_le
theorem firstB_stop {c : UInt8} (r : List UInt8) (h : blk c = true) : firstB (c :: r) = 0 := by unfold firstB; rw [List.takeWhile_cons, h]; rfl
theorem high_run {s : ByteArray} {p : Nat} (hp : p < s.size) (h : 128 ≤ s[p].toNat) : 128 ≤ (dec (tl s p)).1 ∧ firstB (tl s p) = (dec (tl s p)).2 + firstB (tl s (p + (dec (tl s p)).2)) := by
  have hne := tl_ne hp
  have ha : 128 ≤ at' (tl s p) 0 := by rw [at_tl hp]; exact h
  have h1 := dec_high hne ha
  have h2 := dec_rune _ hne
  obtain ⟨-, -, hw⟩ := width_le hp
  refine ⟨h1, ?_⟩
  have hh : ∀ c ∈ (tl s p).take (dec (tl s p)).2, blk c = false := by
    by_cases ho : Okay (tl s p)
    · obtain ⟨-, e⟩ := enc_dec _ hne ho
      rw [← e]
      intro c hc
      exact blk_high (enc_high _ h2 h1 c hc)
    · rw [dec_bad _ ho, tl_cons s p hp]
      intro c hc
      have hc : c ∈ [s[p]] := hc
      rw [List.mem_singleton] at hc
      rw [hc]
      exact blk_high h
  conv => lhs; rw [← List.take_append_drop (dec (tl s p)).2 (tl s p)]
  rw [firstB_skip _ _ hh, tl_dropA, List.length_take, tl_length]
  omega
theorem low_run {s : ByteArray} {p : Nat} (hp : p < s.size) (h : s[p].toNat < 128) : dec (tl s p) = (s[p].toNat, 1) ∧ (blk s[p] = true → firstB (tl s p) = 0) ∧ (blk s[p] = false → firstB (tl s p) = 1 + firstB (tl s (p + 1))) := by
  rw [tl_cons s p hp]
  exact ⟨dec_asc h _, fun hb => firstB_stop _ hb, fun hb => firstB_skip [s[p]] _ (by simpa using hb)⟩
def blB : ByteArray := ⟨#[32, 9]⟩
theorem blB_asc : Ascii blB := by
  intro j h
  have h : j < 2 := h
  match j, h with
  | 0, _ => exact (show (32 : UInt8).toNat < 128 by decide)
  | 1, _ => exact (show (9 : UInt8).toNat < 128 by decide)
theorem blB_ix (c : UInt8) (h : c.toNat < 128) : decide (0 ≤ (if c.toNat < 128 then Lib.indexByte blB.data.toList c.toNat.toUInt8 else -1)) = blk c := by
  rw [if_pos h]
  have h0 : ∀ n : Nat, n < 128 → decide (0 ≤ Lib.indexByte blB.data.toList n.toUInt8) = blk n.toUInt8 := by decide +kernel
  have := h0 c.toNat h
  rw [show c.toNat.toUInt8 = c by simp] at this ⊢
  exact this
/-- how far the search is -/
def IxTo (s : ByteArray) (p F : Nat) : Prop := p + firstB (tl s p) = F
def IxIs (s : ByteArray) (w : World) (e : Ending) (w' : World) : Prop := e = .returned (.int .i64 (ixW s.data.toList)) ∧ Below w.heap.size w w'
set_option maxHeartbeats 1000000 in
set_option maxRecDepth 100000 in
theorem ix_short (s C : ByteArray) (w : World) (h8 : s.size ≤ 8) (hC : C = blB) : Calls Tryz.prog 90 #[.string s, .string C] w (IxIs s w) := by
  obtain ⟨F, hF⟩ : ∃ F, F = firstB s.data.toList := ⟨_, rfl⟩
  have hst : Hid (IxTo s 0 F) := by show _ = _; rw [tl_zero, hF]; omega
  have hlen : s.data.toList.length = s.size := Array.length_toList
  have hI : ixW s.data.toList = if F < s.size then (F : Int) else -1 := by unfold ixW; rw [← hF, hlen]
  have HI0 := Lib.hid hI
  clear hF hI hlen
  have hR := fun (r : Nat) W (hv : Sca r) => irune_asc C r W (by rw [hC]; exact blB_asc) (by rw [hC]; decide) hv
  have hix := fun (c : UInt8) (h : c.toNat < 128) => blB_ix c h
  rw [← hC] at hix
  have hCz : C.size = 2 := by rw [hC]; rfl
  have hne : C.toList.isEmpty = false := by rw [hC]; decide +kernel
  have q0 : ((C.size : Int) == 1) = false := beq_eq_false_iff_ne.2 (by omega)
  have HR := Lib.hid hR
  have HIX := Lib.hid hix
  have HC := Lib.hid hC
  have hU := fun W => Tryz.strings_shouldUseASCIISet (s.size : Int) W
  have hu8 : decide ((8 : Int) < (s.size : Int)) = false := decide_eq_false (by omega)
  have hu9 : decide ((s.size : Int) > 8) = false := decide_eq_false (by omega)
  have HU := Lib.hid hU
  clear hR hix hC hU hCz
  go_enter Tryz.func90, Tryz.ntmps90
  go_wp2_with (go_at_call 120; (with_reducible refine (HU.out _).mono ?_); rintro e w ⟨rfl, rfl⟩)
  go_loopw [9, 10] (fun _ _ wr => ∃ pos : Nat, wr.heap[w.heap.size]? = some (.stringIter s pos) ∧ Below w.heap.size w wr ∧ pos ≤ s.size ∧ Hid (IxTo s pos F)) (fun _ _ wr => s.size - wr.iterPos w.heap.size)
  case atStart =>
    have h0 := World.iter_heap w s 0
    have h1 : (w.iter s 0).heap[w.heap.size]? = some (.stringIter s 0) := by simpa using h0
    exact ⟨0, h1, (Below.refl _ _).alloc (Nat.le_refl _) _, by omega, hst⟩
  case round =>
    clear hst
    obtain ⟨pos, hit, hbel, hpos, hrel⟩ := hrel
    have hsz := hbel.size
    by_cases hp : pos < s.size
    · obtain ⟨wd1, wd2, wd3⟩ := width_le hp
      have hnx0 := fun ty => Lib.run_next_any_at (P := Tryz.prog) wr w.heap.size s pos ty hit hp
      rw [dec_eq] at hnx0
      have hlo := fun h => low_run hp h
      have hhi := fun h => high_run hp h
      have hsc := dec_rune _ (tl_ne hp)
      obtain ⟨R, hRR⟩ : ∃ R, R = dec (tl s pos) := ⟨_, rfl⟩
      rw [← hRR] at wd1 wd2 wd3 hnx0 hlo hhi hsc
      obtain ⟨W2, hW2⟩ : ∃ W2, W2 = wr.iterAt w.heap.size s (pos + R.2) := ⟨_, rfl⟩
      have hit2 : W2.heap[w.heap.size]? = some (.stringIter s (pos + R.2)) := by rw [hW2]; exact Lib.iterAt_heap _ _ _ _ _ hit
      have hbel2 : Below w.heap.size w W2 := by rw [hW2]; exact Lib.below_iterAt hbel (by omega) _ _
      have hlt2 := lt_of_block hit2
      have hnx : ∀ ty, (Instr.next (.pointer (some ⟨w.heap.size, 0, none⟩)) true ty).run Tryz.prog wr = .ok (.tuple #[.bool true, .int .i64 pos, .int .i32 R.1]) W2 := by rw [hW2]; exact hnx0
      have HIP := Lib.hid (iter_posA hit)
      obtain ⟨v, hv⟩ : ∃ v : Int, v = if R.1 < 128 then Lib.indexByte C.data.toList R.1.toUInt8 else -1 := ⟨_, rfl⟩
      have hcall := HR.out R.1 W2 hsc
      rw [← hv] at hcall
      have hx := hrel.out
      have hgo : (decide (0 ≤ v) = true → F = pos) ∧ (decide (0 ≤ v) = false → IxTo s (pos + R.2) F) := by
        unfold IxTo at hx ⊢
        by_cases h : s[pos].toNat < 128
        · obtain ⟨e1, e2, e4⟩ := hlo h
          have e3 := HIX.out s[pos] h
          rw [e1] at hv ⊢
          rw [← hv] at e3
          refine ⟨fun e => ?_, fun e => ?_⟩
          · rw [e] at e3
            have := e2 e3.symm
            omega
          · rw [e] at e3
            have := e4 e3.symm
            show pos + 1 + firstB (tl s (pos + 1)) = F
            omega
        · obtain ⟨e1, e2⟩ := hhi (by omega)
          rw [if_neg (by omega)] at hv
          refine ⟨fun e => ?_, fun e => ?_⟩
          · rw [hv] at e; exact absurd e (by decide)
          · omega
      have HCALL := Lib.hid hcall
      clear hnx0 hW2 hit hbel hlo hhi hRR hv hrel hx hcall hsc
      by_cases h0 : 0 ≤ v
      · have hX := Lib.hid (hgo.1 (decide_eq_true h0))
        have q1 : decide (v ≥ 0) = true := decide_eq_true h0
        clear hgo
        go_wp2_with (go_at_call 119; (with_reducible refine HCALL.out.mono ?_); rintro e w3 ⟨rfl, hb3⟩)
        go_ret
        exact ⟨by rw [HI0.out, if_pos (by rw [hX.out]; exact hp), hX.out]; rfl, hbel2.trans (hb3.mono (Nat.le_of_lt hlt2))⟩
      · have hX := Lib.hid (hgo.2 (decide_eq_false h0))
        have q1 : decide (v ≥ 0) = false := decide_eq_false h0
        clear hgo
        go_wp2_with (go_at_call 119; (with_reducible refine HCALL.out.mono ?_); rintro e w3 ⟨rfl, hb3⟩; have hit3 := (hb3.block _ hlt2).trans hit2)
        go_roundw
        case rel => exact ⟨pos + R.2, hit3, hbel2.trans (hb3.mono (Nat.le_of_lt hlt2)), by omega, hX⟩
        case measure => rw [HIP.out, iter_posA hit3]; omega
    · have hnx : ∀ ty, (Instr.next (.pointer (some ⟨w.heap.size, 0, none⟩)) true ty).run Tryz.prog wr = _ := fun ty => Lib.run_next_end_at wr w.heap.size s pos ty hit hp
      have hx := hrel.out
      have hFs : ¬ F < s.size := by
        unfold IxTo at hx
        omega
      have HFs := Lib.hid hFs
      clear hrel hx hFs
      go_wp2_with fail
      go_ret
      exact ⟨by rw [HI0.out, if_neg HFs.out]; rfl, hbel⟩
theorem blB_has (b : UInt8) : blB.data.toList.contains b = blk b := by
  have h0 : ∀ n : Nat, n < 256 → blB.data.toList.contains (UInt8.ofNat n) = blk (UInt8.ofNat n) := by decide +kernel
  have := h0 b.toNat b.toNat_lt
  rwa [UInt8.ofNat_toNat] at this
theorem ix_all : ∀ l : List UInt8, Lib.indexAny l blB.data.toList = ixW l
  | [] => rfl
  | b :: l => by
    have ih := ix_all l
    have hle := firstB_le l
    rw [Lib.indexAny, blB_has, ih]
    unfold ixW
    cases hb : blk b with
    | true =>
      rw [firstB_stop l hb, if_pos rfl, if_pos (by simp)]; rfl
    | false =>
      have e : firstB (b :: l) = 1 + firstB l := firstB_skip [b] l (by simpa using hb)
      have hl : (b :: l).length = 1 + l.length := by rw [List.length_cons]; omega
      rw [e, hl]
      by_cases h : firstB l < l.length
      · have hne : ((firstB l : Int) == -1) = false := beq_eq_false_iff_ne.2 (by omega)
        rw [if_pos h, if_pos (show 1 + firstB l < 1 + l.length by omega), if_neg (by decide), hne, if_neg (by decide)]
        omega
      · rw [if_neg h, if_neg (show ¬ 1 + firstB l < 1 + l.length by omega)]; rfl
theorem ix_any (s : ByteArray) (w : World) (hs : s.size ≤ 1000000) : Calls Tryz.prog 90 #[.string s, .string blB] w (IxIs s w) := by
  by_cases h8 : s.size ≤ 8
  · exact ix_short s blB w h8 rfl
  · have hz : (Tryz.prog.info? 120).map (fun i => (i.zero, i.size)) = some (some (.agg (Array.replicate 256 (.bool false))), 256) := by kernel_rfl
    have := Tryz.strings_IndexAny_long (zero_of_info hz).1 s blB w (by decide) (by omega) (by omega) (by decide) (fun j b hj => by
      obtain ⟨h1, h2⟩ := List.getElem?_eq_some_iff.1 hj
      rw [← h2]; exact blB_asc j h1)
    refine this.mono ?_
    rintro e w' ⟨rfl, rfl⟩
    exact ⟨by rw [ix_all], ((Below.refl _ _).alloc (Nat.le_refl _) _).alloc (by simp) _⟩
set_option maxHeartbeats 1000000 in
theorem cany_any (s : ByteArray) (w : World) (hs : s.size ≤ 1000000) : Calls Tryz.prog 94 #[.string s, .string ⟨#[32, 9]⟩] w fun e w' => e = .returned (.bool (decide (firstB s.data.toList < s.data.toList.length))) ∧ Below w.heap.size w w' := by
  have hI := ix_any s w hs
  unfold IxIs at hI
  have hq : decide (0 ≤ ixW s.data.toList) = decide (firstB s.data.toList < s.data.toList.length) := by
    unfold ixW
    by_cases h : firstB s.data.toList < s.data.toList.length
    · rw [if_pos h, decide_eq_true h]; exact decide_eq_true (by omega)
    · rw [if_neg h, decide_eq_false h]; rfl
  rw [← hq]
  have HI := Lib.hid hI
  clear hI
  have hb : (⟨#[32, 9]⟩ : ByteArray) = blB := rfl
  rw [hb]
  generalize blB = C at *
  generalize ixW s.data.toList = i at *
  clear hb hq
  go_enter Tryz.func94, Tryz.ntmps94
  go_wp2_with (go_at_call 90; (with_reducible refine HI.out.mono ?_); rintro e w1 ⟨rfl, hb1⟩)
  go_ret
  exact ⟨rfl, hb1⟩
end Go.Proofs.YtjoipgekmnnlpaaGreatDoor
