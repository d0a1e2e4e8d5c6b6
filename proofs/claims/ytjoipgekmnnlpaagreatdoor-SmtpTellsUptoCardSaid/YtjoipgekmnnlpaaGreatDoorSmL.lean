/- Walks: a mail session: lines.Bare, a line of a message. -/
import Derived.Test.YtjoipgekmnnlpaaGreatDoorSmGq
namespace Sm
open Go
theorem suf_lastN (l : List UInt8) (c : UInt8) : Lib.hasSuffix l [c] = decide (l.getLast? = some c) := by
  unfold Lib.hasSuffix
  rw [Bool.eq_iff_iff, List.isSuffixOf_iff_suffix, decide_eq_true_iff]
  constructor
  · rintro ⟨t, rfl⟩; simp
  · intro h
    rw [List.getLast?_eq_some_iff] at h
    obtain ⟨t, rfl⟩ := h
    exact ⟨t, rfl⟩
theorem trim_sufN (l : List UInt8) (c : UInt8) : Lib.trimSuffix l [c] = chopS c l := by
  unfold Lib.trimSuffix chopS
  rw [suf_lastN]
  by_cases h : l.getLast? = some c
  · rw [decide_eq_true h, if_pos rfl, if_pos h, List.dropLast_eq_take]; rfl
  · rw [decide_eq_false h, if_neg (by decide), if_neg h]
theorem bareS_le (l : List UInt8) : (bareS l).length ≤ l.length := by
  unfold bareS chopS
  split
  · split
    · rw [List.length_dropLast, List.length_dropLast]; omega
    · rw [List.length_dropLast]; omega
  · exact Nat.le_refl _
theorem undot_trim (l : List UInt8) : Lib.trimPrefix l [46] = undot l := by
  unfold Lib.trimPrefix Lib.hasPrefix
  cases l with
  | nil => rfl
  | cons c r =>
    by_cases h : c = 46
    · subst h; rfl
    · have : (([46] : List UInt8).isPrefixOf (c :: r)) = false := by simp [List.isPrefixOf]; exact fun e => h e.symm
      rw [this, if_neg (by decide)]
      unfold undot
      split
      · rename_i e; injection e with e1 _; exact absurd e1 h
      · rfl
theorem undot_le (l : List UInt8) : (undot l).length ≤ l.length := by
  unfold undot
  split
  · simp
  · exact Nat.le_refl _
end Sm
namespace Go.Proofs.YtjoipgekmnnlpaaGreatDoor
open Go.RowKit Go.Shelf Go.Lib Pk Sm
set_option maxRecDepth 100000 in
theorem bareS_any (s : ByteArray) (w : World) (hs : s.size ≤ 100000000) : Calls Tryz.prog 56 #[.string s] w fun e w' => e = .returned (.string (bt (bareS s.data.toList))) ∧ w = w' := by
  have h1 := fun w => Tryz.strings_HasSuffix s ⟨#[10]⟩ w (by omega)
  have e2 : Lib.hasSuffix s.data.toList (⟨#[10]⟩ : ByteArray).data.toList = decide (s.data.toList.getLast? = some 10) := suf_lastN _ _
  rw [e2] at h1
  by_cases h : s.data.toList.getLast? = some 10
  · rw [decide_eq_true h] at h1
    have h0 : 0 < s.size := by
      rcases Nat.eq_zero_or_pos s.size with e | e
      · rw [List.eq_nil_of_length_eq_zero (show s.data.toList.length = 0 from e)] at h; cases h
      · exact e
    have hx := ext_size s 0 (s.size - 1)
    have hd : (s.extract 0 (s.size - 1)).data.toList = s.data.toList.dropLast := by rw [Lib.extract_data, List.drop_zero, List.dropLast_eq_take]; rfl
    have h2 := fun w => Tryz.strings_TrimSuffix (s.extract 0 (s.size - 1)) ⟨#[13]⟩ w (by rw [hx]; omega)
    have e3 : Lib.trimSuffix (s.extract 0 (s.size - 1)).data.toList (⟨#[13]⟩ : ByteArray).data.toList = bareS s.data.toList := by
      rw [hd]; unfold bareS; rw [if_pos h]; exact trim_sufN _ _
    rw [e3] at h2
    have H1 := Lib.hid h1
    have H2 := Lib.hid h2
    have z1 : (0 : Int) ≤ (s.size : Int) - 1 := by omega
    have z2 : (1 : Int) ≤ (s.size : Int) := by omega
    have z3 : ((s.size : Int) - 1).toNat = s.size - 1 := by omega
    clear h1 h2 e2 e3 h hd hx
    go_enter Tryz.func56, Tryz.ntmps56
    go_wp2_with (first
      | (go_at_call 54; (with_reducible refine (H1.out _).mono ?_); rintro e w1 ⟨rfl, rfl⟩)
      | (go_at_call 88; (with_reducible refine (H2.out _).mono ?_); rintro e w1 ⟨rfl, rfl⟩))
    go_ret
    exact ⟨rfl, rfl⟩
  · rw [decide_eq_false h] at h1
    have hb : bt (bareS s.data.toList) = s := by unfold bareS; rw [if_neg h, bt_back]
    rw [hb]
    have H1 := Lib.hid h1
    clear h1 e2 h hb
    go_enter Tryz.func56, Tryz.ntmps56
    go_wp2_with (go_at_call 54; (with_reducible refine (H1.out _).mono ?_); rintro e w1 ⟨rfl, rfl⟩)
    go_ret
    exact ⟨rfl, rfl⟩

variable {G : Nat} {w : World} {sb : Nat} {most : Int} {fp kv sp tv bp : Value} {g lg wt ov : Bool}
theorem Raw.ne_b {b : Nat} {v : Value} {l : List UInt8} (h : Raw w sb most fp kv g sp tv bp lg wt ov) (hb : BQ w b v l) : b ≠ sb ∧ v.ownBlock ≠ some sb := by
  refine ⟨?_, ?_⟩
  · rintro rfl
    obtain ⟨⟨p, -, h2⟩, -⟩ := hb
    rw [show w.heap[b]? = _ from h] at h2
    injection h2 with h2
    injection h2 with _ h2 _
    exact absurd h2 (by decide)
  · intro e
    obtain ⟨-, -, hq, -⟩ := hb
    rcases hq with ⟨rfl, -⟩ | ⟨g', o, cap, cur, fz, rfl, -, -, h3, -⟩
    · cases e
    · injection e with e
      have e : g' = sb := e
      subst e
      rw [show w.heap[g']? = _ from h] at h3
      injection h3 with h3
      injection h3 with _ h3 _
      exact absurd h3 (by decide)
/-- the blocks that a line may turn -/
def LX (sb b : Nat) (bv : Value) (k : Nat) : Prop := k = sb ∨ k = b ∨ bv.ownBlock = some k
/-- what a line of a message leaves -/
def LineP (w w' : World) (sb : Nat) (most : Int) (fp kv : Value) (g : Bool) (sp tv : Value) (b : Nat) (bv : Value) (lb : List UInt8) (lg wt ov : Bool) (l : List UInt8) (e : Ending) : Prop :=
  Fr (LX sb b bv) w w' ∧
  (if (decide (l.getLast? = some 10) && decide (bareS l = [46])) = false then
    e = .returned (.string ⟨#[]⟩) ∧ Raw w' sb most fp kv g sp tv (.pointer (some ⟨b, 0, none⟩)) (lg || !decide (l.getLast? = some 10)) wt ov ∧ ∃ v', BQ w' b v' (lb ++ undot l) ∧ NewOwn w bv v'
  else if lg = true then e = .returned (.string (bt (repW 500))) ∧ Raw w' sb most fp kv g (.pointer none) (.slice none 0 0) (.pointer none) lg wt ov
  else if most < lb.length then e = .returned (.string (bt (repW 552))) ∧ Raw w' sb most fp kv g (.pointer none) (.slice none 0 0) (.pointer none) lg wt ov
  else e = .returned (.string ⟨#[]⟩) ∧ Raw w' sb most fp kv g sp tv (.pointer (some ⟨b, 0, none⟩)) lg true ov ∧ BQ w' b bv lb)
theorem Fr.drew {X : Nat → Prop} {a : World} (h : Fr X a w) : Fr X a w.drew := ⟨h.os, h.tape, h.output, h.size, h.block⟩
theorem cell6 {b : Nat} {bv : Value} {w1 : World} (h : Raw w sb most fp kv g sp tv bp lg wt ov) (hn : b ≠ sb ∧ bv.ownBlock ≠ some sb) (f : Fr (BX b bv) w w1) : w1.cell? ⟨sb, 6, none⟩ = some bp :=
  (Lib.cell_of_heap ((f.block sb h.lt (fun e => by rcases e with e | e; exact hn.1 e.symm; exact hn.2 e)).trans h) _).trans rfl
theorem lineA_fin {b : Nat} {bv v4 : Value} {lb l : List UInt8} {lg' : Bool} {w4 : World} {e : Ending} (hA : (decide (l.getLast? = some 10) && decide (bareS l = [46])) = false) (hlg : (lg || !decide (l.getLast? = some 10)) = lg')
    (hR : Raw (w.setCell ⟨sb, 7, none⟩ (.bool lg')).drew sb most fp kv g sp tv (.pointer (some ⟨b, 0, none⟩)) lg' wt ov) (hne : b ≠ sb ∧ bv.ownBlock ≠ some sb)
    (h4 : BQ w4 b v4 (lb ++ undot l)) (n4 : NewOwn (w.setCell ⟨sb, 7, none⟩ (.bool lg')).drew bv v4) (f4 : Fr (BX b bv) (w.setCell ⟨sb, 7, none⟩ (.bool lg')).drew w4) (he : e = .returned (.string ⟨#[]⟩)) :
    LineP w w4 sb most fp kv g sp tv b bv lb lg wt ov l e := by
  have hs : (w.setCell ⟨sb, 7, none⟩ (.bool lg')).drew.heap.size = w.heap.size := by simp [World.setCell]
  refine ⟨?_, ?_⟩
  · have f1 : Fr (LX sb b bv) w (w.setCell ⟨sb, 7, none⟩ (.bool lg')) := (Fr.refl (LX sb b bv) w).setCell (Or.inl rfl) _
    have f0 : Fr (LX sb b bv) w (w.setCell ⟨sb, 7, none⟩ (.bool lg')).drew := f1.drew
    exact f0.trans f4 (fun k e => .inl (.inr e))
  · rw [if_pos hA, hlg]
    refine ⟨he, (f4.block sb hR.lt (fun e => by rcases e with e | e; exact hne.1 e.symm; exact hne.2 e)).trans hR, v4, h4, ?_⟩
    rcases n4 with h | h
    · exact .inl h
    · exact .inr fun k hk => by rw [← hs]; exact h k hk
set_option maxHeartbeats 2000000 in
set_option maxRecDepth 100000 in
theorem line_add (b : Nat) (bv : Value) (lb : List UInt8) (l : ByteArray) (hl : l.size ≤ 100000) (hlb : lb.length ≤ 100000000) (h : Raw w sb most fp kv g sp tv (.pointer (some ⟨b, 0, none⟩)) lg wt ov) (hb : BQ w b bv lb)
    (hA : (decide (l.data.toList.getLast? = some 10) && decide (bareS l.data.toList = [46])) = false) :
    Calls Tryz.prog 37 #[.pointer (some ⟨sb, 0, none⟩), .string l] w fun e w' => LineP w w' sb most fp kv g sp tv b bv lb lg wt ov l.data.toList e := by
  have hS := fun W => Tryz.strings_HasSuffix l ⟨#[10]⟩ W (by omega)
  have e2 : Lib.hasSuffix l.data.toList (⟨#[10]⟩ : ByteArray).data.toList = decide (l.data.toList.getLast? = some 10) := suf_lastN _ _
  rw [e2] at hS
  have hT := fun W => Tryz.strings_TrimPrefix l ⟨#[46]⟩ W
  obtain ⟨U, hU1, hU2, hU3⟩ := bt_ex (undot l.data.toList)
  have e3 : (⟨(Lib.trimPrefix l.data.toList (⟨#[46]⟩ : ByteArray).data.toList).toArray⟩ : ByteArray) = U := by rw [hU1]; exact congrArg bt (undot_trim _)
  rw [e3] at hT
  have hUl : (undot l.data.toList).length ≤ l.size := undot_le l.data.toList
  obtain ⟨⟨-, -, -, -, -, -, c6, c7, -⟩, hf⟩ := h.cells
  have f7 := hf 7
  have hne := h.ne_b hb
  have hB := fun W => bareS_any l W (by omega)
  have HA := Lib.hid hA
  have HTP := Lib.hid hT
  have HNE := Lib.hid hne
  have HU := Lib.hid hU2
  have hb2 : ∀ u, BQ (w.setCell ⟨sb, 7, none⟩ (.bool u)) b bv lb := fun u => hb.kept (Below.heap_setCell _ _ _ _ hne.1) fun g e => Below.heap_setCell _ _ _ _ fun e' => hne.2 (by rw [e, show g = sb from e'])
  have hW := fun u => wsQ b bv lb U (w.setCell ⟨sb, 7, none⟩ (.bool u)).drew (hb2 u) (by omega)
  obtain ⟨X, hX⟩ : ∃ X, X = decide (l.data.toList.getLast? = some 10) := ⟨_, rfl⟩
  rw [← hX] at hA hS
  have HX := Lib.hid (And.intro hX.symm (Nat.zero_le 0)).1
  clear hX
  cases X with
  | false =>
    have h2 := h.set7 true
    obtain ⟨⟨-, -, -, -, -, -, D6, -⟩, -⟩ := h2.cells
    have HWS := Lib.hid (hW true)
    have HS := Lib.hid hS
    have HR := Lib.hid (show Raw (w.setCell ⟨sb, 7, none⟩ (.bool true)).drew sb most fp kv g sp tv (.pointer (some ⟨b, 0, none⟩)) true wt ov from h2)
    clear hW hT hS e2 e3 hU1 hU2 hU3 hUl hf h2 hne hb2 hb h hl hlb hA hB
    cases lg with
    | true =>
      go_enter Tryz.func37, Tryz.ntmps37
      go_wp2_with fail
      refine (HS.out _).mono ?_
      rintro e w1 ⟨rfl, rfl⟩
      go_wp2
      go_region_held3 (fun W => W.cell? ⟨sb, 6, none⟩ = some (.pointer (some ⟨b, 0, none⟩))) (exact D6) (first | (go_at_call 48; (with_reducible refine (HTP.out _).mono ?_); rintro e w3 ⟨rfl, rfl⟩) | (go_at_call 36; (with_reducible refine HWS.out.mono ?_); rintro e w4 ⟨rfl, v4, h4, n4, f4⟩; have HW := Lib.hid (And.intro h4 (And.intro n4 f4)); have D6 := cell6 HR.out HNE.out f4; clear h4 n4 f4) | fail)
      go_wp2
      go_ret
      obtain ⟨h4, n4, f4⟩ := HW.out
      rw [HU.out] at h4
      exact lineA_fin HA.out (by rw [HX.out]; rfl) HR.out HNE.out h4 n4 f4 rfl
    | false =>
      go_enter Tryz.func37, Tryz.ntmps37
      go_wp2_with fail
      refine (HS.out _).mono ?_
      rintro e w1 ⟨rfl, rfl⟩
      go_wp2
      go_region_held3 (fun W => W.cell? ⟨sb, 6, none⟩ = some (.pointer (some ⟨b, 0, none⟩))) (exact D6) (first | (go_at_call 48; (with_reducible refine (HTP.out _).mono ?_); rintro e w3 ⟨rfl, rfl⟩) | (go_at_call 36; (with_reducible refine HWS.out.mono ?_); rintro e w4 ⟨rfl, v4, h4, n4, f4⟩; have HW := Lib.hid (And.intro h4 (And.intro n4 f4)); have D6 := cell6 HR.out HNE.out f4; clear h4 n4 f4) | fail)
      go_wp2
      go_ret
      obtain ⟨h4, n4, f4⟩ := HW.out
      rw [HU.out] at h4
      exact lineA_fin HA.out (by rw [HX.out]; rfl) HR.out HNE.out h4 n4 f4 rfl
  | true =>
    have hA2 : decide (bareS l.data.toList = [46]) = false := hA
    have q1 : ((bt (bareS l.data.toList)).toList == ([46] : List UInt8)) = false := by
      rw [Lib.toList_data, bt_data]
      exact (Bool.beq_eq_decide_eq _ _).trans hA2
    generalize bt (bareS l.data.toList) = B at *
    have HB := Lib.hid hB
    have HS := Lib.hid hS
    cases lg with
    | true =>
      have h2 := h.set7 true
      obtain ⟨⟨-, -, -, -, -, -, D6, -⟩, -⟩ := h2.cells
      have HWS := Lib.hid (hW true)
      have HR := Lib.hid (show Raw (w.setCell ⟨sb, 7, none⟩ (.bool true)).drew sb most fp kv g sp tv (.pointer (some ⟨b, 0, none⟩)) true wt ov from h2)
      clear hW hT hS e2 e3 hU1 hU2 hU3 hUl hf h2 hne hb2 hb h hl hlb hA hB hA2
      go_enter Tryz.func37, Tryz.ntmps37
      go_wp2_with fail
      refine (HS.out _).mono ?_
      rintro e w1 ⟨rfl, rfl⟩
      go_wp2_with fail
      refine (HB.out _).mono ?_
      rintro e w1 ⟨rfl, rfl⟩
      go_wp2
      go_region_held3 (fun W => W.cell? ⟨sb, 6, none⟩ = some (.pointer (some ⟨b, 0, none⟩))) (exact D6) (first | (go_at_call 48; (with_reducible refine (HTP.out _).mono ?_); rintro e w3 ⟨rfl, rfl⟩) | (go_at_call 36; (with_reducible refine HWS.out.mono ?_); rintro e w4 ⟨rfl, v4, h4, n4, f4⟩; have HW := Lib.hid (And.intro h4 (And.intro n4 f4)); have D6 := cell6 HR.out HNE.out f4; clear h4 n4 f4) | fail)
      go_wp2
      go_ret
      obtain ⟨h4, n4, f4⟩ := HW.out
      rw [HU.out] at h4
      exact lineA_fin HA.out (by rw [HX.out]; rfl) HR.out HNE.out h4 n4 f4 rfl
    | false =>
      have h2 := h.set7 false
      obtain ⟨⟨-, -, -, -, -, -, D6, -⟩, -⟩ := h2.cells
      have HWS := Lib.hid (hW false)
      have HR := Lib.hid (show Raw (w.setCell ⟨sb, 7, none⟩ (.bool false)).drew sb most fp kv g sp tv (.pointer (some ⟨b, 0, none⟩)) false wt ov from h2)
      clear hW hT hS e2 e3 hU1 hU2 hU3 hUl hf h2 hne hb2 hb h hl hlb hA hB hA2
      go_enter Tryz.func37, Tryz.ntmps37
      go_wp2_with fail
      refine (HS.out _).mono ?_
      rintro e w1 ⟨rfl, rfl⟩
      go_wp2_with fail
      refine (HB.out _).mono ?_
      rintro e w1 ⟨rfl, rfl⟩
      go_wp2
      go_region_held3 (fun W => W.cell? ⟨sb, 6, none⟩ = some (.pointer (some ⟨b, 0, none⟩))) (exact D6) (first | (go_at_call 48; (with_reducible refine (HTP.out _).mono ?_); rintro e w3 ⟨rfl, rfl⟩) | (go_at_call 36; (with_reducible refine HWS.out.mono ?_); rintro e w4 ⟨rfl, v4, h4, n4, f4⟩; have HW := Lib.hid (And.intro h4 (And.intro n4 f4)); have D6 := cell6 HR.out HNE.out f4; clear h4 n4 f4) | fail)
      go_wp2
      go_ret
      obtain ⟨h4, n4, f4⟩ := HW.out
      rw [HU.out] at h4
      exact lineA_fin HA.out (by rw [HX.out]; rfl) HR.out HNE.out h4 n4 f4 rfl
theorem size7 {u : Value} {k : Nat} : (w.setCell ⟨sb, k, none⟩ u).heap.size = w.heap.size := by simp [World.setCell]
set_option maxHeartbeats 2000000 in
set_option maxRecDepth 100000 in
theorem line_end (b : Nat) (bv : Value) (lb : List UInt8) (l : ByteArray) (hl : l.size ≤ 100000) (hC : Ctx G w) (hG : G ≤ sb) (h : Raw w sb most fp kv g sp tv (.pointer (some ⟨b, 0, none⟩)) lg wt ov) (hb : BQ w b bv lb)
    (hA : (decide (l.data.toList.getLast? = some 10) && decide (bareS l.data.toList = [46])) = true) :
    Calls Tryz.prog 37 #[.pointer (some ⟨sb, 0, none⟩), .string l] w fun e w' => LineP w w' sb most fp kv g sp tv b bv lb lg wt ov l.data.toList e := by
  have hS := fun W => Tryz.strings_HasSuffix l ⟨#[10]⟩ W (by omega)
  have e2 : Lib.hasSuffix l.data.toList (⟨#[10]⟩ : ByteArray).data.toList = decide (l.data.toList.getLast? = some 10) := suf_lastN _ _
  obtain ⟨hA1, hA2⟩ := Bool.and_eq_true_iff.1 hA
  rw [e2, hA1] at hS
  have hB := fun W => bareS_any l W (by omega)
  have q1 : ((bt (bareS l.data.toList)).toList == ([46] : List UInt8)) = true := by
    rw [Lib.toList_data, bt_data]
    exact beq_iff_eq.2 (of_decide_eq_true hA2)
  generalize bt (bareS l.data.toList) = B at *
  obtain ⟨⟨c0, -, -, -, -, -, c6, c7, c8, -⟩, hf⟩ := h.cells
  have f6 := hf 6
  have f8 := hf 8
  have hZ := reset_any _ _ _ _ _ _ _ _ _ _ _ _ (h.set6 (.pointer none))
  have hF : Fr (Bk sb) w (w.setCell ⟨sb, 6, none⟩ (.pointer none)) := (Fr.refl (Bk sb) _).setCell (by rfl) _
  have HZ := Lib.hid hZ
  have HF := Lib.hid hF
  have HC := Lib.hid (And.intro hC hG)
  have HS := Lib.hid hS
  have HB := Lib.hid hB
  have HH := Lib.hid (And.intro h hb)
  have HA := Lib.hid hA
  have hLen := lenQ b bv lb w hb
  have HL := Lib.hid (lenQ b bv lb w.drew hb)
  have hh8 : Fr (Bk sb) w (w.setCell ⟨sb, 8, none⟩ (.bool true)) := (Fr.refl (Bk sb) _).setCell (by rfl) _
  have H8 := Lib.hid hh8
  have hne := h.ne_b hb
  have HNE := Lib.hid hne
  clear hZ hF hC hG hS hB h hb hA hA1 hA2 e2 hf hLen hh8 hne
  cases lg with
  | true =>
    go_enter Tryz.func37, Tryz.ntmps37
    go_wp2_with fail
    refine (HS.out _).mono ?_
    rintro e w1 ⟨rfl, rfl⟩
    go_wp2_with fail
    refine (HB.out _).mono ?_
    rintro e w1 ⟨rfl, rfl⟩
    go_wp2_with fail
    refine HZ.out.mono ?_
    rintro e w2 ⟨rfl, h3, f3⟩
    have HR := Lib.hid (reply_at 500 (by decide) (by decide) ((HC.out.1.own HC.out.2 HF.out).own HC.out.2 f3))
    have HY := Lib.hid (And.intro f3 h3)
    clear f3 h3
    go_wp2_with fail
    refine HR.out.mono ?_
    rintro e w3 ⟨rfl, hb3⟩
    go_wp2
    go_ret
    obtain ⟨f3, h3⟩ := HY.out
    refine ⟨((HF.out.trans f3 (fun _ e => .inl e)).then hb3).mono (fun _ e => .inl e), ?_⟩
    rw [HA.out, if_neg (by decide), if_pos rfl]
    exact ⟨rfl, h3.later hb3⟩
  | false =>
    by_cases hm : most < lb.length
    · have q2 : decide (most < (lb.length : Int)) = true := decide_eq_true hm
      have HM := Lib.hid hm
      clear hm HZ HF
      go_enter Tryz.func37, Tryz.ntmps37
      go_wp2_with fail
      refine (HS.out _).mono ?_
      rintro e w1 ⟨rfl, rfl⟩
      go_wp2_with fail
      refine (HB.out _).mono ?_
      rintro e w1 ⟨rfl, rfl⟩
      have d6 : w1.drew.frozen? ⟨sb, 6, none⟩ = false := f6
      go_wp2
      go_region_held3 (fun W => W.cell? ⟨sb, 0, none⟩ = some (.int .i64 most) ∧ W.cell? ⟨sb, 6, none⟩ = some (.pointer (some ⟨b, 0, none⟩))) (exact ⟨c0, c6⟩) (first | (go_at_call 57; (with_reducible refine HL.out.mono ?_); rintro e w2 ⟨rfl, rfl⟩) | fail)
      have HZ := Lib.hid (reset_any _ _ _ _ _ _ _ _ _ _ _ _ (Raw.set6 (w := w1.drew) HH.out.1 (.pointer none)))
      have HF := Lib.hid ((Fr.refl (Bk sb) w1).drew.setCell (b := sb) (o := 6) (by rfl) (.pointer none))
      go_wp2_with fail
      refine HZ.out.mono ?_
      rintro e w2 ⟨rfl, h3, f3⟩
      have HR := Lib.hid (reply_at 552 (by decide) (by decide) ((HC.out.1.own HC.out.2 HF.out).own HC.out.2 f3))
      have HY := Lib.hid (And.intro f3 h3)
      clear f3 h3
      go_wp2_with fail
      refine HR.out.mono ?_
      rintro e w3 ⟨rfl, hb3⟩
      go_wp2
      go_ret
      obtain ⟨f3, h3⟩ := HY.out
      refine ⟨((HF.out.trans f3 (fun _ e => .inl e)).then hb3).mono (fun _ e => .inl e), ?_⟩
      rw [HA.out, if_neg (by decide), if_neg (by decide), if_pos HM.out]
      exact ⟨rfl, h3.later hb3⟩
    · have q2 : decide (most < (lb.length : Int)) = false := decide_eq_false hm
      have HM := Lib.hid hm
      clear hm HZ HF
      go_enter Tryz.func37, Tryz.ntmps37
      go_wp2_with fail
      refine (HS.out _).mono ?_
      rintro e w1 ⟨rfl, rfl⟩
      go_wp2_with fail
      refine (HB.out _).mono ?_
      rintro e w1 ⟨rfl, rfl⟩
      have d8 : w1.drew.frozen? ⟨sb, 8, none⟩ = false := f8
      go_wp2
      go_region_held3 (fun W => W.cell? ⟨sb, 0, none⟩ = some (.int .i64 most) ∧ W.cell? ⟨sb, 6, none⟩ = some (.pointer (some ⟨b, 0, none⟩))) (exact ⟨c0, c6⟩) (first | (go_at_call 57; (with_reducible refine HL.out.mono ?_); rintro e w2 ⟨rfl, rfl⟩) | fail)
      go_wp2
      go_ret
      refine ⟨((Fr.refl (LX sb b bv) w1).drew.setCell (b := sb) (o := 8) (.inl rfl) (.bool true)), ?_⟩
      rw [HA.out, if_neg (by decide), if_neg (by decide), if_neg (by have := HM.out; omega)]
      obtain ⟨hr, hb⟩ := HH.out
      exact ⟨rfl, Raw.set8 (w := w1.drew) hr true, BQ.kept (w := w1.drew) hb (Below.heap_setCell _ _ _ _ HNE.out.1) fun g e => Below.heap_setCell _ _ _ _ fun e' => HNE.out.2 (by rw [e, show g = sb from e'])⟩
end Go.Proofs.YtjoipgekmnnlpaaGreatDoor
