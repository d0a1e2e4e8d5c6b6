/- Walks: header: end, goes, bare, Right, Unfold, small. -/
import Derived.Test.YthchklbnkojkgaaGreatDoorHdR
import Derived.Test.YthchklbnkojkgaaGreatDoorShelf
import Derived.Test.YthchklbnkojkgaaGreatDoorRows
import Derived.Shelf.Strings.SlTrimAscii
namespace Go.Proofs.YthchklbnkojkgaaGreatDoor
open Go.RowKit Pk Hd

theorem u8n {a b : UInt8} (h : a ≠ b) : ((a.toNat : Int) == (b.toNat : Int)) = false := by rw [u8_beq, decide_eq_false h]
theorem u8y {a b : UInt8} (h : a = b) : ((a.toNat : Int) == (b.toNat : Int)) = true := by rw [u8_beq, decide_eq_true h]
theorem u8k {a : UInt8} (n : Nat) (hn : n < 256) : ((a.toNat : Int) == (n : Int)) = decide (a = UInt8.ofNat n) := by
  have := u8_beq a (UInt8.ofNat n)
  rw [show ((UInt8.ofNat n).toNat : Int) = (n : Int) by simp; omega] at this
  exact this
theorem data_cons (s : ByteArray) (h : 0 < s.size) : s.data.toList = s[0] :: tl s 1 := by rw [← tl_zero s, tl_cons s 0 h]
theorem ext_all (s : ByteArray) : s.extract 0 s.size = s := by
  rw [ext_to, List.take_of_length_le (show s.data.toList.length ≤ s.size from Nat.le_refl _)]
theorem toB_back (s : ByteArray) : toB s.data.toList = s := by unfold toB; simp
theorem ibH0 (s : ByteArray) (x : UInt8) (w : World) : Calls Tryz.prog 55 #[.string s, .int .u8 x.toNat] w fun e w' => e = .returned (.int .i64 (Lib.indexByte s.data.toList x)) ∧ w = w' := by
  refine (Tryz.strings_IndexByte s x.toNat w).mono fun _ _ ⟨h1, h2⟩ => ⟨?_, h2.symm⟩
  rw [h1]; simp
theorem ib10 (s : ByteArray) (w : World) : Calls Tryz.prog 55 #[.string s, .int .u8 10] w fun e w' => e = .returned (.int .i64 (Lib.indexByte s.data.toList 10)) ∧ w = w' := ibH0 s 10 w
theorem ibB (x : UInt8) (w : World) : Calls Tryz.prog 55 #[.string ⟨#[32, 9]⟩, .int .u8 x.toNat] w fun e w' => e = .returned (.int .i64 (Lib.indexByte [32, 9] x)) ∧ w = w' := ibH0 ⟨#[32, 9]⟩ x w
set_option maxRecDepth 100000 in
theorem end_any (s : ByteArray) (w : World) (hs : s.size ≤ 100000000) : Calls Tryz.prog 39 #[.string s] w fun e w' => e = .returned (.int .i64 (lineN s.data.toList : Nat)) ∧ w = w' := by
  have hI := ib10 s
  have hx := lineN_ix s.data.toList
  have hle := lineN_le s.data.toList
  rw [dataL] at hx hle
  have hge := Lib.indexByte_ge s.data.toList 10
  generalize Lib.indexByte s.data.toList 10 = ix at hI hx hge
  generalize lineN s.data.toList = n at hx hle ⊢
  have HI := Lib.hid hI
  clear hI
  by_cases h : 0 ≤ ix
  · rw [if_pos h] at hx
    have HX := Lib.hid hx
    have hb : ix < 100000000 := by omega
    clear hx hge hle
    go_enter Tryz.func39, Tryz.ntmps39
    go_wp2_with (go_at_call 55; refine (HI.out _).mono ?_; rintro e w' ⟨rfl, rfl⟩)
    go_ret
    exact ⟨by rw [HX.out]; rfl, rfl⟩
  · rw [if_neg h] at hx
    have HX := Lib.hid hx
    clear hx hge hle
    go_enter Tryz.func39, Tryz.ntmps39
    go_wp2_with (go_at_call 55; refine (HI.out _).mono ?_; rintro e w' ⟨rfl, rfl⟩)
    go_ret
    exact ⟨by rw [HX.out]; rfl, rfl⟩
set_option maxRecDepth 100000 in
theorem goes_any (s : ByteArray) (w : World) : Calls Tryz.prog 37 #[.string s] w fun e w' => e = .returned (.bool (goesB s.data.toList)) ∧ w = w' := by
  by_cases h0 : 0 < s.size
  · rw [data_cons s h0]
    show Calls _ _ _ _ fun e w' => e = .returned (.bool (blk s[0])) ∧ w = w'
    have hI := ibB s[0]
    have hx : decide (0 ≤ Lib.indexByte [32, 9] s[0]) = blk s[0] := by
      have := goes_ix s[0]
      cases hb : blk s[0] with
      | true => exact decide_eq_true (this.2 hb)
      | false => exact decide_eq_false (fun e => by rw [this.1 e] at hb; cases hb)
    have hne := neS h0
    generalize Lib.indexByte [32, 9] s[0] = ix at hI hx
    generalize blk s[0] = b at hx ⊢
    have HI := Lib.hid hI
    clear hI
    go_enter Tryz.func37, Tryz.ntmps37
    go_wp2_with (go_at_call 55; refine (HI.out _).mono ?_; rintro e w' ⟨rfl, rfl⟩)
    go_ret
    exact ⟨by rw [← hx]; rfl, rfl⟩
  · have hn := nilS (S := s) (by omega)
    have : s.data.toList = [] := by rw [← Lib.toList_data]; exact hn
    rw [this]
    clear this
    go_enter Tryz.func37, Tryz.ntmps37
    go_wp2
    go_ret
    exact ⟨rfl, rfl⟩
theorem suf_last (l : List UInt8) (c : UInt8) : Lib.hasSuffix l [c] = decide (l.getLast? = some c) := by
  unfold Lib.hasSuffix
  rw [Bool.eq_iff_iff, List.isSuffixOf_iff_suffix, decide_eq_true_iff]
  constructor
  · rintro ⟨t, rfl⟩; simp
  · intro h
    rw [List.getLast?_eq_some_iff] at h
    obtain ⟨t, rfl⟩ := h
    exact ⟨t, rfl⟩
theorem trim_suf (l : List UInt8) (c : UInt8) : Lib.trimSuffix l [c] = chop c l := by
  unfold Lib.trimSuffix chop
  rw [suf_last]
  by_cases h : l.getLast? = some c
  · rw [decide_eq_true h, if_pos rfl, if_pos h, List.dropLast_eq_take]; rfl
  · rw [decide_eq_false h, if_neg (by decide), if_neg h]
theorem chop_le (c : UInt8) (l : List UInt8) : (chop c l).length ≤ l.length := by
  unfold chop
  split
  · rw [List.length_dropLast]; omega
  · exact Nat.le_refl _
theorem bare_le (l : List UInt8) : (bareL l).length ≤ l.length := by
  unfold bareL
  split
  · have := chop_le 13 l.dropLast
    rw [List.length_dropLast] at this
    omega
  · exact Nat.le_refl _
set_option maxRecDepth 100000 in
theorem bare_any (s : ByteArray) (w : World) (hs : s.size ≤ 100000000) : Calls Tryz.prog 40 #[.string s] w fun e w' => e = .returned (.string (toB (bareL s.data.toList))) ∧ w = w' := by
  have h1 := fun w => Tryz.strings_CutSuffix s ⟨#[10]⟩ w (by omega)
  have e1 : Lib.trimSuffix s.data.toList (⟨#[10]⟩ : ByteArray).data.toList = chop 10 s.data.toList := trim_suf _ _
  have e2 : Lib.hasSuffix s.data.toList (⟨#[10]⟩ : ByteArray).data.toList = decide (s.data.toList.getLast? = some 10) := suf_last _ _
  rw [e1, e2] at h1
  have hcl := chop_le 10 s.data.toList
  rw [dataL] at hcl
  obtain ⟨T, hT, hTd, hTs⟩ := arrE (chop 10 s.data.toList)
  rw [← hT] at h1
  have h2 := fun w => Tryz.strings_TrimSuffix T ⟨#[13]⟩ w (by omega)
  have e3 : Lib.trimSuffix T.data.toList (⟨#[13]⟩ : ByteArray).data.toList = chop 13 (chop 10 s.data.toList) := by rw [hTd]; exact trim_suf _ _
  rw [e3] at h2
  by_cases h : s.data.toList.getLast? = some 10
  · rw [decide_eq_true h] at h1
    have hb : bareL s.data.toList = chop 13 (chop 10 s.data.toList) := by
      have : chop 10 s.data.toList = s.data.toList.dropLast := if_pos h
      rw [this]; unfold bareL; rw [if_pos h]
    rw [hb]
    have H1 := Lib.hid h1
    have H2 := Lib.hid h2
    clear h1 h2 e1 e2 e3 hT hTd hTs hcl h hb
    go_enter Tryz.func40, Tryz.ntmps40
    go_wp2_with (first
      | (go_at_call 56; refine (H1.out _).mono ?_; rintro e w' ⟨rfl, rfl⟩)
      | (go_at_call 57; refine (H2.out _).mono ?_; rintro e w' ⟨rfl, rfl⟩))
    go_ret
    exact ⟨rfl, rfl⟩
  · rw [decide_eq_false h] at h1
    have hb : toB (bareL s.data.toList) = s := by unfold bareL; rw [if_neg h, toB_back]
    rw [hb]
    have H1 := Lib.hid h1
    clear h1 h2 e1 e2 e3 hT hTd hTs hcl h hb
    go_enter Tryz.func40, Tryz.ntmps40
    go_wp2_with (go_at_call 56; refine (H1.out _).mono ?_; rintro e w' ⟨rfl, rfl⟩)
    go_ret
    exact ⟨rfl, rfl⟩
theorem okc_true {c : UInt8} (h : okc c = true) : 32 < c.toNat ∧ c.toNat ≤ 126 ∧ c ≠ 58 := by
  unfold okc at h
  simpa using h
theorem okc_false {c : UInt8} (h : okc c = false) : c.toNat ≤ 32 ∨ (32 < c.toNat ∧ 126 < c.toNat) ∨ (32 < c.toNat ∧ c.toNat ≤ 126 ∧ c = 58) := by
  by_cases h1 : 32 < c.toNat
  · by_cases h2 : c.toNat ≤ 126
    · by_cases h3 : c = 58
      · exact .inr (.inr ⟨h1, h2, h3⟩)
      · exfalso
        have : okc c = true := by unfold okc; simp [h1, h2, h3]
        rw [this] at h; cases h
    · exact .inr (.inl ⟨h1, by omega⟩)
  · exact .inl (by omega)
theorem okAll_step {s : ByteArray} {k : Nat} {X : Bool} (h : Hid ((tl s k).all okc = X)) (hk : k < s.size) : (okc s[k] = true → Hid ((tl s (k + 1)).all okc = X)) ∧ (okc s[k] = false → X = false) := by
  have e := h.out
  rw [tl_cons s k hk, List.all_cons] at e
  exact ⟨fun h1 => by rw [h1, Bool.true_and] at e; exact e, fun h1 => by rw [h1, Bool.false_and] at e; exact e.symm⟩
theorem okAll_end {s : ByteArray} {k : Nat} {X : Bool} (h : Hid ((tl s k).all okc = X)) (hk : ¬ k < s.size) : X = true := by
  have e := h.out
  rw [tl_end s k (by omega)] at e
  exact e.symm
set_option maxHeartbeats 1000000 in
set_option maxRecDepth 100000 in
theorem right_any (s : ByteArray) (w : World) (hs : s.size ≤ 100000000) : Calls Tryz.prog 10 #[.string s] w fun e w' => e = .returned (.bool (rightB s.data.toList)) ∧ w = w' := by
  have hR : rightB s.data.toList = (!s.data.toList.isEmpty && s.data.toList.all okc) := rfl
  rw [hR]
  have hst : Hid ((tl s 0).all okc = s.data.toList.all okc) := by show _ = _; rw [tl_zero]
  have hn : s.toList.isEmpty = s.data.toList.isEmpty := by rw [Lib.toList_data]
  generalize s.data.toList.all okc = X at hst ⊢
  generalize s.data.toList.isEmpty = em at hn ⊢
  clear hR
  go_enter Tryz.func10, Tryz.ntmps10
  go_wp2
  go_loop [7] (fun iv => ∃ k : Nat, k ≤ s.size ∧ iv = .int .i64 k ∧ Hid ((tl s k).all okc = X)) (fun iv => s.size - (intOf iv).toNat)
  case atStart => exact ⟨0, by omega, by first | rfl | trivial, hst⟩
  case round =>
    clear hst
    obtain ⟨k, hk, rfl, hrel⟩ := hrel
    by_cases hlt : k < s.size
    · obtain ⟨s1, s2⟩ := okAll_step hrel hlt
      have qc : ((s[k].toNat : Int) == 58) = decide (s[k] = 58) := u8k 58 (by decide)
      cases hp : okc s[k] with
      | true =>
        obtain ⟨h1, h2, h3⟩ := okc_true hp
        have hd := s1 hp
        rw [decide_eq_false h3] at qc
        have q1 : decide ((s[k].toNat : Int) ≤ 32) = false := decide_eq_false (by omega)
        have q2 : decide ((126 : Int) < (s[k].toNat : Int)) = false := decide_eq_false (by omega)
        clear s1 s2 hrel hp h3
        go_wp2
        go_round
        case rel => exact ⟨k + 1, by omega, by go_num, hd⟩
        case measure => simp [intOf]; omega
      | false =>
        obtain rfl := s2 hp
        rcases okc_false hp with h1 | ⟨h1, h2⟩ | ⟨h1, h2, h3⟩
        · have q1 : decide ((s[k].toNat : Int) ≤ 32) = true := decide_eq_true (by omega)
          clear s1 s2 hrel hp qc
          go_wp2
          go_ret
          exact ⟨rfl, rfl⟩
        · have q1 : decide ((s[k].toNat : Int) ≤ 32) = false := decide_eq_false (by omega)
          have q2 : decide ((126 : Int) < (s[k].toNat : Int)) = true := decide_eq_true (by omega)
          clear s1 s2 hrel hp qc
          go_wp2
          go_ret
          exact ⟨rfl, rfl⟩
        · rw [decide_eq_true h3] at qc
          have q1 : decide ((s[k].toNat : Int) ≤ 32) = false := decide_eq_false (by omega)
          have q2 : decide ((126 : Int) < (s[k].toNat : Int)) = false := decide_eq_false (by omega)
          clear s1 s2 hrel hp h3
          go_wp2
          go_ret
          exact ⟨rfl, rfl⟩
    · obtain rfl := okAll_end hrel hlt
      clear hrel
      go_wp2
      go_ret
      exact ⟨rfl, rfl⟩
set_option maxRecDepth 100000 in
theorem unfold_any (s : ByteArray) (w : World) (m : Int) (hm : w.cell? ⟨2, 0, none⟩ = some (.int .i64 m)) (hs : s.size ≤ 100000000) : Calls Tryz.prog 27 #[.string s] w fun e w' => e = .returned (.string (toB (unfoldL s.data.toList))) ∧ Below w.heap.size w w' := by
  have h1 := Tryz.strings_ReplaceAll s ⟨#[13, 10]⟩ ⟨#[]⟩ m w (by omega) hm (by decide) (by show _ + _ * 0 ≤ _; omega)
  have hl : (Lib.replaceAll s.data.toList [13, 10] []).length ≤ 100000000 := by
    rw [rem_all [13, 10] _ (by decide)]
    have : ∀ (n : Nat) (l : List UInt8), (remF [13, 10] n l).length ≤ l.length := by
      intro n
      induction n with
      | zero => intro l; exact Nat.le_refl _
      | succ n ih =>
        intro l
        cases l with
        | nil => exact Nat.le_refl _
        | cons c r =>
          unfold remF
          split
          · have := ih ((c :: r).drop ([13, 10] : List UInt8).length)
            rw [List.length_drop] at this; omega
          · have := ih r
            rw [List.length_cons, List.length_cons]; omega
    have := this s.data.toList.length s.data.toList
    rw [dataL] at this ⊢; omega
  have he := unfold_repl s.data.toList
  obtain ⟨T, hT, hTd, hTs⟩ := arrE (Lib.replaceAll s.data.toList [13, 10] [])
  have h1 : Calls Tryz.prog 44 #[.string s, .string ⟨#[13, 10]⟩, .string ⟨#[]⟩] w fun e w' => e = .returned (.string T) ∧ Below w.heap.size w w' := by rw [hT]; exact h1
  have h2 : ∀ w1, Below w.heap.size w w1 → Calls Tryz.prog 44 #[.string T, .string ⟨#[10]⟩, .string ⟨#[]⟩] w1 fun e w' => e = .returned (.string (toB (unfoldL s.data.toList))) ∧ Below w1.heap.size w1 w' := fun w1 hb => by
    have := Tryz.strings_ReplaceAll T ⟨#[10]⟩ ⟨#[]⟩ m w1 (by omega) (cell_later hb hm) (by decide) (by show _ + _ * 0 ≤ _; omega)
    rw [hTd] at this
    have e2 : Lib.replaceAll (Lib.replaceAll s.data.toList [13, 10] []) (⟨#[10]⟩ : ByteArray).data.toList (⟨#[]⟩ : ByteArray).data.toList = unfoldL s.data.toList := he
    rw [e2] at this
    exact this
  have H1 := Lib.hid h1
  have H2 := Lib.hid h2
  clear h1 h2 he hT hTd hTs hl hm
  go_enter Tryz.func27, Tryz.ntmps27
  go_wp2_with (first
    | (go_at_call 44; (with_reducible refine H1.out.mono ?_); rintro e w1 ⟨rfl, hb1⟩)
    | (go_at_call 44; (with_reducible refine (H2.out _ hb1).mono ?_); rintro e w2 ⟨rfl, hb2⟩))
  go_ret
  exact ⟨rfl, hb1.trans (hb2.mono hb1.size)⟩
theorem bslH : ByteSl Tryz.prog 47 5 where
  ht := Tryz.underlying47
  he := Tryz.underlying5
  hi := info_parts (show (Tryz.prog.info? 5).map (fun i => (i.zero, i.size, i.bytes)) = some (some (.int .u8 0), 1, 1) by kernel_rfl)
def mix (s : ByteArray) (k : Nat) : List UInt8 := (s.data.toList.take k).map Hd.lowc ++ s.data.toList.drop k
theorem mix_length (s : ByteArray) (k : Nat) : (mix s k).length = s.size := by
  unfold mix
  have : s.data.toList.length = s.size := rfl
  rw [List.length_append, List.length_map, List.length_take, List.length_drop]; omega
theorem mix_at (s : ByteArray) (k : Nat) (h : k < s.size) (h2 : k < (mix s k).length) : (mix s k)[k] = s[k] := by
  have hl : s.data.toList.length = s.size := rfl
  have e : (mix s k)[k]? = some s[k] := by
    unfold mix
    rw [List.getElem?_append_right (by rw [List.length_map, List.length_take]; omega), List.length_map, List.length_take, List.getElem?_drop]
    have : k + (k - min k s.data.toList.length) = k := by omega
    rw [this, List.getElem?_eq_getElem (by omega)]
    rfl
  rw [List.getElem?_eq_getElem h2] at e
  exact Option.some.inj e
theorem mix_step (s : ByteArray) (k : Nat) (h : k < s.size) : (mix s k).set k (Hd.lowc s[k]) = mix s (k + 1) := by
  have hl : s.data.toList.length = s.size := rfl
  unfold mix
  rw [List.set_append_right _ _ (by rw [List.length_map, List.length_take]; omega)]
  have e : k - ((s.data.toList.take k).map Hd.lowc).length = 0 := by rw [List.length_map, List.length_take]; omega
  rw [e, List.drop_eq_getElem_cons (by omega), List.set_cons_zero, List.take_succ_eq_append_getElem (by omega), List.map_append]
  simp
  rfl
theorem mix_same (s : ByteArray) (k : Nat) (h : k < s.size) (hl : Hd.lowc s[k] = s[k]) : mix s k = mix s (k + 1) := by
  rw [← mix_step s k h, hl]
  have h2 : k < (mix s k).length := by rw [mix_length]; exact h
  have := mix_at s k h h2
  rw [← this]
  exact (List.set_getElem_self h2).symm
theorem mix_zero (s : ByteArray) : mix s 0 = s.data.toList := by unfold mix; simp
theorem mix_end (s : ByteArray) : mix s s.size = smallL s.data.toList := by
  unfold mix smallL
  have hl : s.data.toList.length = s.size := rfl
  rw [List.take_of_length_le (by omega), List.drop_eq_nil_of_le (by omega), List.append_nil]
theorem low_b8 {c : UInt8} (h1 : 65 ≤ c.toNat) (h2 : c.toNat ≤ 90) : b8 ((c.toNat : Int) + 32) = Hd.lowc c := by
  unfold Hd.lowc
  rw [if_pos ⟨h1, h2⟩]
  apply UInt8.toNat_inj.1
  have := b8_toNat ((c.toNat : Int) + 32) (by omega) (by omega)
  rw [UInt8.toNat_add]
  have e : (32 : UInt8).toNat = 32 := rfl
  rw [e]
  omega
set_option maxHeartbeats 1000000 in
set_option maxRecDepth 100000 in
theorem small_any (s : ByteArray) (w : World) (hs : s.size ≤ 100000000) : Calls Tryz.prog 60 #[.string s] w fun e w' => e = .returned (.string (toB (smallL s.data.toList))) ∧ Below w.heap.size w w' := by
  obtain ⟨cp, w1, hcv, hrow, hb1, hz1⟩ := conv_row (P := Tryz.prog) w 9 47 5 s Tryz.underlying9 Tryz.underlying47 Tryz.underlying5
  rw [← mix_zero] at hrow
  go_enter Tryz.func60, Tryz.ntmps60
  go_wp2
  go_loopw [10] (fun i wr => ∃ (k : Nat), i = .int .i64 k ∧ rowF wr w.heap.size 5 (mix s k) ∧ Below w.heap.size w wr ∧ k ≤ s.size) (fun i _ => s.size - (intOf i).toNat)
  case atStart => exact ⟨0, by first | rfl | trivial, hrow, hb1, by omega⟩
  case round =>
    clear hrow hcv hb1 hz1
    obtain ⟨k, rfl, hrow, hbel, hk⟩ := hrel
    have hsz := hbel.size
    by_cases hlt : k < s.size
    · have hc := rowF_cell hrow k (by rw [mix_length]; exact hlt)
      rw [mix_at s k hlt] at hc
      have hf := rowF_frozen hrow k (by rw [mix_length]; exact hlt)
      have hb := s[k].toNat_lt
      by_cases h1 : 65 ≤ s[k].toNat
      · by_cases h2 : s[k].toNat ≤ 90
        · have hrow2 := rowF_stored hrow k ((s[k].toNat : Int) + 32) (by omega) (by omega)
          rw [low_b8 h1 h2, mix_step s k hlt] at hrow2
          have hbel2 : Below w.heap.size w (wr.setCell ⟨w.heap.size, k, none⟩ (.int .u8 ((s[k].toNat : Int) + 32))) := hbel.setCell (Nat.le_refl _) _
          clear hrow
          go_wp2
          go_roundw
          case rel => exact ⟨k + 1, by go_num, hrow2, hbel2, by omega⟩
          case measure => simp [intOf]; omega
        · rw [mix_same s k hlt (by unfold Hd.lowc; rw [if_neg (by omega)])] at hrow
          go_wp2
          go_roundw
          case rel => exact ⟨k + 1, by go_num, hrow, hbel, by omega⟩
          case measure => simp [intOf]; omega
      · rw [mix_same s k hlt (by unfold Hd.lowc; rw [if_neg (by omega)])] at hrow
        go_wp2
        go_roundw
        case rel => exact ⟨k + 1, by go_num, hrow, hbel, by omega⟩
        case measure => simp [intOf]; omega
    · obtain rfl : k = s.size := by omega
      have hcv := run_string_row (P := Tryz.prog) (ts := 9) (n := s.size) (cap := cp) bslH Tryz.underlying9 hrow (mix_length _ _)
      rw [mix_end] at hcv
      clear hrow
      go_wp2
      go_ret
      exact ⟨rfl, hbel⟩
end Go.Proofs.YthchklbnkojkgaaGreatDoor
