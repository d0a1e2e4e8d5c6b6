/- Walks: lex: multiline. -/
import Derived.Test.YtgimgkjggaijoaaGreatDoorLnM
namespace Lx
open Go Pk

def dotG : List (List UInt8) → Option (List UInt8 × Nat)
  | [] => none
  | h :: r => if isDot h = true then some ([], h.length) else (dotG r).map fun p => (unst h ++ p.1, h.length + p.2)
theorem dotL_lin (l : List UInt8) : dotL l = dotG (linN l) := by
  refine lin_rec (P := fun l => dotL l = dotG (linN l)) rfl (fun l h ih => ?_) l
  have hl := lnL_le l
  rw [dotL_eq, if_neg h, linN_cons l h, ih]
  show _ = if isDot (l.take (lnL l)) = true then some ([], (l.take (lnL l)).length) else _
  rw [List.length_take, Nat.min_eq_left hl]
theorem lnL_ends : ∀ (l : List UInt8), lnL l < l.length → ∀ F, lnL (l.take (lnL l) ++ F) = lnL l
  | [], h, _ => by simp at h
  | c :: r, h, F => by
    have e1 : lnL (c :: r) = if c = 10 then 1 else lnL r + 1 := rfl
    by_cases hc : c = 10
    · rw [e1, if_pos hc]
      show (if c = 10 then 1 else _) = 1
      rw [if_pos hc]
    · rw [e1, if_neg hc] at h ⊢
      rw [List.take_succ_cons, List.cons_append]
      show (if c = 10 then 1 else lnL (r.take (lnL r) ++ F) + 1) = _
      rw [if_neg hc, lnL_ends r (by rw [List.length_cons] at h; omega) F]
theorem lnL_self : ∀ (l : List UInt8), lnL (l.take (lnL l)) = (l.take (lnL l)).length
  | [] => rfl
  | c :: r => by
    have e1 : lnL (c :: r) = if c = 10 then 1 else lnL r + 1 := rfl
    by_cases hc : c = 10
    · rw [e1, if_pos hc]
      show (if c = 10 then 1 else _) = 1
      rw [if_pos hc]
    · rw [e1, if_neg hc, List.take_succ_cons]
      show (if c = 10 then 1 else lnL (r.take (lnL r)) + 1) = _
      rw [if_neg hc, lnL_self r, List.length_cons]
theorem linN_take (l : List UInt8) : ∀ i, linN ((linN l).take i).flatten = (linN l).take i := by
  refine lin_rec (P := fun l => ∀ i, linN ((linN l).take i).flatten = (linN l).take i) (fun i => by rw [linN_nil, List.take_nil]; rfl) (fun l h ih i => ?_) l
  cases i with
  | zero => rw [List.take_zero]; rfl
  | succ i =>
    rw [linN_cons l h, List.take_succ_cons, List.flatten_cons]
    have ih := ih i
    have hp := lnL_pos l h
    have hle := lnL_le l
    have hne : l.take (lnL l) ++ ((linN (l.drop (lnL l))).take i).flatten ≠ [] := fun e => by
      have := congrArg List.length e
      rw [List.length_append, List.length_take, List.length_nil] at this; omega
    have hlen : (l.take (lnL l)).length = lnL l := by rw [List.length_take]; omega
    rcases Nat.lt_or_ge (lnL l) l.length with h1 | h1
    · have e := lnL_ends l h1 ((linN (l.drop (lnL l))).take i).flatten
      rw [linN_cons _ hne, e, List.take_append_of_le_length (by omega), List.drop_append_of_le_length (by omega), List.take_of_length_le (by omega), List.drop_eq_nil_of_le (by omega), List.nil_append, ih]
    · have hd : l.drop (lnL l) = [] := List.drop_eq_nil_of_le h1
      rw [hd] at hne ⊢
      rw [linN_nil, List.take_nil, List.flatten_nil, List.append_nil] at hne ⊢
      have e := lnL_self l
      rw [linN_cons _ hne, e, List.take_of_length_le (Nat.le_refl _), List.drop_eq_nil_of_le (Nat.le_refl _)]
      rfl
/-- where the search of the dot stands after i lines -/
def DotAt (L : List (List UInt8)) (i : Nat) (X : Option (List UInt8 × Nat)) : Prop :=
  (dotG (L.drop i)).map (fun p => ((L.take i).flatMap unst ++ p.1, (L.take i).flatten.length + p.2)) = X
theorem dot_begin (L : List (List UInt8)) : DotAt L 0 (dotG L) := by
  unfold DotAt
  rw [List.drop_zero]
  cases dotG L with
  | none => rfl
  | some p => simp
theorem dot_step {L : List (List UInt8)} {i : Nat} {X : Option (List UInt8 × Nat)} (h : DotAt L i X) (hi : i < L.length) :
    (isDot L[i] = true → X = some ((L.take i).flatMap unst, (L.take i).flatten.length + L[i].length)) ∧ (isDot L[i] = false → DotAt L (i + 1) X ∧ (L.take (i + 1)).flatten.length = (L.take i).flatten.length + L[i].length) := by
  have e := h
  unfold DotAt at e
  rw [List.drop_eq_getElem_cons hi] at e
  have e1 : dotG (L[i] :: L.drop (i + 1)) = if isDot L[i] = true then some ([], L[i].length) else (dotG (L.drop (i + 1))).map fun p => (unst L[i] ++ p.1, L[i].length + p.2) := rfl
  rw [e1] at e
  have ht : L.take (i + 1) = L.take i ++ [L[i]] := List.take_succ_eq_append_getElem hi
  refine ⟨fun h1 => ?_, fun h1 => ⟨?_, by rw [ht, List.flatten_append, List.length_append, List.flatten_singleton]⟩⟩
  · rw [if_pos h1, Option.map_some] at e
    rw [← e]; simp
  · rw [h1, if_neg (by decide)] at e
    unfold DotAt
    rw [← e, ht]
    rw [List.flatMap_append, List.flatten_append, List.length_append, List.flatten_singleton]
    have e9 : [L[i]].flatMap unst = unst L[i] := by simp
    rw [e9]
    cases dotG (L.drop (i + 1)) with
    | none => rfl
    | some p => rw [Option.map_some, Option.map_some, Option.map_some, List.append_assoc, Nat.add_assoc]
theorem dot_end {L : List (List UInt8)} {i : Nat} {X : Option (List UInt8 × Nat)} (h : DotAt L i X) (hi : ¬ i < L.length) : X = none := by
  unfold DotAt at h
  have e : L.drop i = [] := List.drop_eq_nil_of_le (Nat.le_of_not_lt hi)
  rw [e] at h
  exact h.symm
theorem span_nl : ∀ (l : List UInt8), (spanL noNl l : Int) = if 0 ≤ Lib.indexByte l 10 then Lib.indexByte l 10 else (l.length : Int)
  | [] => rfl
  | c :: r => by
    have ih := span_nl r
    have hg := Lib.indexByte_ge r 10
    have e0 : Lib.indexByte (c :: r) 10 = if c == 10 then 0 else if Lib.indexByte r 10 == -1 then -1 else Lib.indexByte r 10 + 1 := rfl
    have e1 : spanL noNl (c :: r) = if noNl c = true then spanL noNl r + 1 else 0 := rfl
    rw [e0, e1, List.length_cons]
    by_cases hc : c = 10
    · subst hc; rfl
    · rw [if_pos (show noNl c = true from decide_eq_true hc), if_neg (show ¬ (c == 10) = true by simp [hc])]
      by_cases h1 : Lib.indexByte r 10 = -1
      · rw [if_pos (show (Lib.indexByte r 10 == -1) = true by rw [h1]; rfl), if_neg (by decide)]
        rw [if_neg (by omega)] at ih
        omega
      · rw [if_neg (show ¬ (Lib.indexByte r 10 == -1) = true by simpa using h1), if_pos (by omega)]
        rw [if_pos (by omega)] at ih
        omega
end Lx
namespace Go.Proofs.YtgimgkjggaijoaaGreatDoor
open Go.RowKit Pk Lx

def PairT (o : Option (List UInt8 × Nat)) : Value := match o with | none => .tuple #[.string ⟨#[]⟩, .int .i64 (-1)] | some p => .tuple #[.string (toB p.1), .int .i64 (p.2 : Nat)]
def PairIs (o : Option (List UInt8 × Nat)) (w : World) (e : Ending) (w' : World) : Prop := e = .returned (PairT o) ∧ Below w.heap.size w w'
theorem one_dot (l : List UInt8) : ((toB (bareN l)).toList == [46]) = isDot l := by
  rw [Lib.toList_data, toB_data]
  have e := dot_bare l
  rw [Bool.eq_iff_iff, beq_iff_eq]
  exact e
theorem map_take (f : List UInt8 → List UInt8) (l : List UInt8) (i : Nat) : mapN f ((linN l).take i).flatten = ((linN l).take i).flatMap f := by rw [mapN_lin, linN_take]
theorem linB_at (s : ByteArray) (i : Nat) (h : i < (linB s).length) : ∃ h2 : i < (linN s.data.toList).length, (linB s)[i].data.toList = (linN s.data.toList)[i] := by
  unfold linB at h ⊢
  rw [List.length_map] at h
  exact ⟨h, by simp⟩
theorem linB_length (s : ByteArray) : (linB s).length = (linN s.data.toList).length := by unfold linB; rw [List.length_map]
theorem take_flat_le (L : List (List UInt8)) (i : Nat) : (L.take i).flatten.length ≤ L.flatten.length := by
  conv => rhs; rw [← List.take_append_drop i L]
  rw [List.flatten_append, List.length_append]; omega
theorem take_flat (L : List (List UInt8)) (i : Nat) : L.flatten.take (L.take i).flatten.length = (L.take i).flatten := by
  conv => lhs; rw [← List.take_append_drop i L]
  rw [List.flatten_append, List.take_append_of_le_length (by rw [List.take_append_drop]; exact Nat.le_refl _), List.take_append_drop, List.take_of_length_le (Nat.le_refl _)]
theorem drop_nil_hd (l : List UInt8) (n : Nat) (h : l.length ≤ n) : (l.drop n).head? = none := by rw [List.drop_eq_nil_of_le h]; rfl
/-- behind the comment: what begins the text -/
def tailL (l : List UInt8) (b : Nat) : Option (List UInt8 × Nat) :=
  let c := if (l.drop b).head? = some 13 ∧ (l.drop (b + 1)).head? = some 10 then b + 1 else b
  if (l.drop c).head? = some 10 then (dotG (linN (l.drop (c + 1)))).map fun p => (p.1, c + 1 + p.2) else none
theorem multi_tail (l : List UInt8) : multiL l = tailL l (begB l) := by
  unfold multiL tailL begL
  simp only [dotL_lin]
theorem multi_nohash {l : List UInt8} (h : (l.drop (spanL isBl l)).head? ≠ some 35) : multiL l = tailL l (spanL isBl l) := by
  rw [multi_tail]; unfold begB; rw [if_neg h]
theorem multi_hash {l : List UInt8} (h : (l.drop (spanL isBl l)).head? = some 35) : multiL l = tailL l (spanL isBl l + spanL noNl (l.drop (spanL isBl l))) := by
  rw [multi_tail]; unfold begB; rw [if_pos h]
theorem tail_out {l : List UInt8} {b : Nat} (h : l.length ≤ b) : tailL l b = none := by
  have e := drop_nil_hd l b h
  have e2 : ¬ ((l.drop b).head? = some 13 ∧ (l.drop (b + 1)).head? = some 10) := fun hh => by rw [e] at hh; cases hh.1
  unfold tailL
  simp only
  rw [if_neg e2, e, if_neg (by simp)]
theorem hd_lt {l : List UInt8} {n : Nat} {c : UInt8} (h : (l.drop n).head? = some c) : n < l.length := by
  rw [List.head?_drop] at h
  exact (List.getElem?_eq_some_iff.1 h).1
theorem tail_crlf {l : List UInt8} {b : Nat} (h : (l.drop b).head? = some 13 ∧ (l.drop (b + 1)).head? = some 10) : tailL l b = (dotG (linN (l.drop (b + 1 + 1)))).map fun p => (p.1, b + 1 + 1 + p.2) := by
  unfold tailL
  simp only
  rw [if_pos h, if_pos h.2]
theorem tail_lf {l : List UInt8} {b : Nat} (h : ¬ ((l.drop b).head? = some 13 ∧ (l.drop (b + 1)).head? = some 10)) : tailL l b = if (l.drop b).head? = some 10 then (dotG (linN (l.drop (b + 1)))).map fun p => (p.1, b + 1 + p.2) else none := by
  unfold tailL
  simp only
  rw [if_neg h]
theorem hp_one (S : ByteArray) (c : UInt8) (w : World) : Calls Tryz.prog 37 #[.string S, .string ⟨#[c]⟩] w fun e w' => e = .returned (.bool (decide (S.data.toList.head? = some c))) ∧ w = w' := by
  refine (Tryz.strings_HasPrefix S ⟨#[c]⟩ w).mono fun _ _ ⟨h1, h2⟩ => ⟨?_, h2.symm⟩
  rw [h1]
  have : (⟨#[c]⟩ : ByteArray).data.toList = [c] := rfl
  rw [this, pre_one]
theorem hp_two (S : ByteArray) (c d : UInt8) (w : World) : Calls Tryz.prog 37 #[.string S, .string ⟨#[c, d]⟩] w fun e w' => e = .returned (.bool (decide (S.data.toList.head? = some c ∧ S.data.toList.tail.head? = some d))) ∧ w = w' := by
  refine (Tryz.strings_HasPrefix S ⟨#[c, d]⟩ w).mono fun _ _ ⟨h1, h2⟩ => ⟨?_, h2.symm⟩
  rw [h1]
  have : (⟨#[c, d]⟩ : ByteArray).data.toList = [c, d] := rfl
  rw [this, pre_two]
theorem strs_seen {w : World} {B : Nat} {e : TypeId} {v : Value} {l : List ByteArray} (h : ownsS w B e v l) : ∃ p c, v = .slice p l.length c ∧ l.length ≤ c ∧ (l = [] ∨ ∃ g, p = some ⟨g, 0, none⟩ ∧ B ≤ g ∧ ∀ j (hj : j < l.length), w.cell? ⟨g, j, none⟩ = some (.string l[j])) := by
  rcases h.form with ⟨h1, h2⟩ | ⟨g, c, h1, h2, h3, -, h4⟩
  · subst h2; exact ⟨none, 0, h1, Nat.le_refl _, .inl rfl⟩
  · exact ⟨_, c, h1, h3, .inr ⟨g, rfl, h2, h4⟩⟩
/-- the search of the dot over the lines, with the place in the text -/
structure DotW (s : ByteArray) (f : Nat) (LB : List ByteArray) (X : Option (List UInt8 × Nat)) (i t : Nat) : Prop where
  at_ : DotAt (LB.map (·.data.toList)) i X
  place : t = f + ((LB.map (·.data.toList)).take i).flatten.length
  text : LB.map (·.data.toList) = linN (s.data.toList.drop f)
theorem dotW_flat {s : ByteArray} {f : Nat} {LB : List ByteArray} {X : Option (List UInt8 × Nat)} {i t : Nat} (h : DotW s f LB X i t) (hf : f ≤ s.size) : f ≤ t ∧ t ≤ s.size := by
  have h1 := h.place
  have h2 := take_flat_le (LB.map (·.data.toList)) i
  rw [h.text, linN_join, List.length_drop, dataL, ← h.text] at h2
  omega
theorem dotW_step {s : ByteArray} {f : Nat} {LB : List ByteArray} {X : Option (List UInt8 × Nat)} {i t : Nat} (h : DotW s f LB X i t) (hi : i < LB.length) :
    (isDot LB[i].data.toList = true → X = some (mapN unst (s.extract f t).data.toList, t - f + LB[i].size)) ∧ (isDot LB[i].data.toList = false → DotW s f LB X (i + 1) (t + LB[i].size)) := by
  have hi' : i < (LB.map (·.data.toList)).length := by rw [List.length_map]; exact hi
  obtain ⟨s1, s2⟩ := dot_step h.at_ hi'
  have e : (LB.map (·.data.toList))[i] = LB[i].data.toList := by simp
  rw [e, dataL] at s1 s2
  have hpl := h.place
  refine ⟨fun h1 => ?_, fun h1 => ⟨(s2 h1).1, by rw [(s2 h1).2, hpl, Nat.add_assoc], h.text⟩⟩
  rw [s1 h1]
  have e2 : (s.extract f t).data.toList = ((LB.map (·.data.toList)).take i).flatten := by
    rw [Lib.extract_data, hpl, Nat.add_sub_cancel_left, h.text]
    have := take_flat (linN (s.data.toList.drop f)) i
    rw [linN_join] at this
    exact this
  rw [e2, h.text, map_take, ← h.text]
  congr 2
  omega
theorem dotW_end {s : ByteArray} {f : Nat} {LB : List ByteArray} {X : Option (List UInt8 × Nat)} {i t : Nat} (h : DotW s f LB X i t) (hi : ¬ i < LB.length) : X = none :=
  dot_end h.at_ (by rw [List.length_map]; exact hi)
theorem dotW_begin (s : ByteArray) (f : Nat) : DotW s f (linB (s.extract f s.size)) (dotG (linN (s.data.toList.drop f))) 0 f := by
  have e : (linB (s.extract f s.size)).map (·.data.toList) = linN (s.data.toList.drop f) := by
    unfold linB
    rw [ext_from, List.map_map]
    conv => rhs; rw [← List.map_id (linN (s.data.toList.drop f))]
    exact List.map_congr_left fun x _ => by simp
  exact ⟨by rw [e]; exact dot_begin _, by simp, e⟩
theorem pair_some {l : List UInt8} {f a b : Nat} (h : a = f + b) : Ending.returned (.tuple #[.string (toB l), .int .i64 (a : Int)]) = .returned (PairT (Option.map (fun p : List UInt8 × Nat => (p.1, f + p.2)) (some (l, b)))) := by
  subst h; rfl
set_option maxHeartbeats 4000000 in
set_option maxRecDepth 100000 in
theorem multi_any (s : ByteArray) (w : World) (m : Int) (hm : w.cell? ⟨0, 0, none⟩ = some (.int .i64 m)) (hs : s.size ≤ 10000000) : Calls Tryz.prog 41 #[.string s] w (PairIs (multiL s.data.toList) w) := by
  have hS := fun w => span_blank s w (by omega)
  have hal := spanL_le isBl s.data.toList
  have hh := multi_hash (l := s.data.toList)
  have hn := multi_nohash (l := s.data.toList)
  rw [dataL] at hal
  generalize spanL isBl s.data.toList = a at *
  have HS := Lib.hid hS
  have hP1 := hp_one (s.extract a s.size) 35
  rw [ext_from] at hP1
  by_cases h35 : (s.data.toList.drop a).head? = some 35
  · rw [hh h35]
    rw [decide_eq_true h35] at hP1
    have HP1 := Lib.hid hP1
    have hN := ibX10 (s.extract a s.size)
    have hnl := span_nl (s.extract a s.size).data.toList
    have hng := Lib.indexByte_ge (s.extract a s.size).data.toList 10
    rw [ext_from, List.length_drop, dataL] at hnl
    rw [ext_from] at hN hng
    have hz := hd_lt h35
    rw [dataL] at hz
    have hsl := spanL_le noNl (s.data.toList.drop a)
    rw [List.length_drop, dataL] at hsl
    clear hh hn h35 hP1 hS
    generalize Lib.indexByte (s.data.toList.drop a) 10 = ix at *
    generalize spanL noNl (s.data.toList.drop a) = n at *
    have z0 : (a : Int) ≤ (s.size : Int) := by omega
    by_cases hix : 0 ≤ ix
    · rw [if_pos hix] at hnl
      obtain rfl : ix = (n : Int) := hnl.symm
      have HN := Lib.hid hN
      clear hN hng hnl hix
      have z4 : (a : Int) + (n : Int) ≤ (s.size : Int) := by omega
      have hP2 := hp_two (s.extract (a + n) s.size) 13 10
      rw [ext_from, ← List.drop_one, List.drop_drop] at hP2
      by_cases hcr : (s.data.toList.drop (a + n)).head? = some 13 ∧ (s.data.toList.drop (a + n + 1)).head? = some 10
      · rw [tail_crlf hcr]
        rw [decide_eq_true hcr] at hP2
        have HP2 := Lib.hid hP2
        have hP3 := hp_one (s.extract (a + n + 1) s.size) 10
        rw [ext_from, decide_eq_true hcr.2] at hP3
        have HP3 := Lib.hid hP3
        have z := hd_lt hcr.2
        rw [dataL] at z
        have z1 : (a : Int) + (n : Int) + 1 ≤ (s.size : Int) := by omega
        have z2 : (a : Int) + (n : Int) + 1 + 1 ≤ (s.size : Int) := by omega
        clear hP2 hP3 hcr z
        have hBz := ext_size s (a + n + 1 + 1) s.size
        have HSp := Lib.hid (split_any (s.extract (a + n + 1 + 1) s.size) w (by rw [hBz]; omega) m hm)
        have hst := Lib.hid (dotW_begin s (a + n + 1 + 1))
        have hmem := fun x => linB_mem (s := s.extract (a + n + 1 + 1) s.size) (x := x)
        have hLl := linB_len (s.extract (a + n + 1 + 1) s.size)
        generalize dotG (linN (s.data.toList.drop (a + n + 1 + 1))) = X at *
        generalize linB (s.extract (a + n + 1 + 1) s.size) = LB at *
        have hm0 := World.block_lt_of_cell? _ _ hm
        go_enter Tryz.func41, Tryz.ntmps41
        go_wp2_with (first
          | (go_at_call 73; (with_reducible refine (HS.out _).mono ?_); rintro e w1 ⟨rfl, rfl⟩)
          | (go_at_call 37; (with_reducible refine (HP1.out _).mono ?_); rintro e w1 ⟨rfl, rfl⟩)
          | (go_at_call 37; (with_reducible refine (HP2.out _).mono ?_); rintro e w1 ⟨rfl, rfl⟩)
          | (go_at_call 37; (with_reducible refine (HP3.out _).mono ?_); rintro e w1 ⟨rfl, rfl⟩)
          | (go_at_call 36; (with_reducible refine (HN.out _).mono ?_); rintro e w1 ⟨rfl, rfl⟩)
          | (go_at_call 76; (with_reducible refine HSp.out.mono ?_); rintro e w1 ⟨v, rfl, hown, hb1⟩; obtain ⟨p, c, rfl, hlc, hcells⟩ := strs_seen hown))
        have hz1 := hb1.size
        have HM := Lib.hid ((hb1.cell (p := ⟨0, 0, none⟩) hm0).trans hm)
        clear hown hm
        go_loop [4, 8, 43] (fun av _ iv => ∃ i t : Nat, iv = .int .i64 i ∧ i ≤ LB.length ∧ av = .int .i64 t ∧ Hid (DotW s (a + n + 1 + 1) LB X i t)) (fun _ _ iv => LB.length - (intOf iv).toNat)
        case atStart => exact ⟨0, a + n + 1 + 1, by first | rfl | trivial, Nat.zero_le _, by first | rfl | simp, hst⟩
        case round =>
          obtain ⟨i, t, rfl, hi, rfl, hrel⟩ := hrel
          clear hst
          obtain ⟨t0, t1⟩ := dotW_flat hrel.out (by omega)
          by_cases hlt : i < LB.length
          · rcases hcells with rfl | ⟨g, rfl, -, hc⟩
            · simp at hlt
            · replace hc := hc i hlt
              obtain ⟨x0, x1⟩ := hmem _ (List.getElem_mem hlt)
              obtain ⟨s1, s2⟩ := dotW_step hrel.out hlt
              obtain ⟨x, hxe⟩ : ∃ x, x = LB[i] := ⟨_, rfl⟩
              rw [← hxe] at hc x0 x1 s1 s2
              clear hxe
              have hBr := fun w => bareN_any x w (by omega)
              have hod := one_dot x.data.toList
              generalize toB (bareN x.data.toList) = Y at *
              have HBr := Lib.hid hBr
              have hil : (i : Int) < (LB.length : Int) := by omega
              cases hd : isDot x.data.toList with
              | true =>
                have hX := Lib.hid (s1 hd)
                rw [hd] at hod
                have hUz := ext_size s (a + n + 1 + 1) t
                have hU := unstuff_any (s.extract (a + n + 1 + 1) t) w1 (by rw [hUz]; omega) m HM.out
                obtain ⟨Z, hZe, hZd, -⟩ := arrE (mapN unst (s.extract (a + n + 1 + 1) t).data.toList)
                have hZ2 : toB (mapN unst (s.extract (a + n + 1 + 1) t).data.toList) = Z := hZe.symm
                rw [hZ2] at hU
                have HU := Lib.hid hU
                have HX := Lib.hid (show X = some (Z.data.toList, t - (a + n + 1 + 1) + x.size) by rw [hZd]; exact hX.out)
                clear hX hU hZe hZd hZ2
                have hsz : x.size ≤ 10000000 := by omega
                clear s1 s2 hrel hBr hd hUz hmem
                go_wp2_with (first
                  | (go_at_call 77; (with_reducible refine (HBr.out _).mono ?_); rintro e w1 ⟨rfl, rfl⟩)
                  | (go_at_call 78; (with_reducible refine HU.out.mono ?_); rintro e w2 ⟨rfl, hb2⟩))
                go_ret2
                exact ⟨by rw [HX.out, ← pair_some (f := a + n + 1 + 1) (a := t + x.size) (b := t - (a + n + 1 + 1) + x.size) (by omega), toB_back]; rfl, hb1.trans (hb2.mono hz1)⟩
              | false =>
                have hnx := Lib.hid (s2 hd)
                rw [hd] at hod
                have hsz : x.size ≤ 10000000 := by omega
                clear s1 s2 hrel hBr hd hmem
                go_wp2_with (go_at_call 77; (with_reducible refine (HBr.out _).mono ?_); rintro e w1 ⟨rfl, rfl⟩)
                go_round
                case rel => exact ⟨i + 1, t + x.size, by go_num, by omega, by go_num, hnx⟩
                case measure => simp [intOf]; omega
          · have hX := Lib.hid (dotW_end hrel.out hlt)
            clear hrel
            go_wp2
            go_ret2
            exact ⟨by show _ = Ending.returned (PairT (Option.map _ X)); rw [hX.out]; rfl, hb1⟩
      · rw [tail_lf hcr]
        rw [decide_eq_false hcr] at hP2
        have HP2 := Lib.hid hP2
        have hP3 := hp_one (s.extract (a + n) s.size) 10
        rw [ext_from] at hP3
        by_cases h10 : (s.data.toList.drop (a + n)).head? = some 10
        · rw [if_pos h10]
          rw [decide_eq_true h10] at hP3
          have HP3 := Lib.hid hP3
          have z := hd_lt h10
          rw [dataL] at z
          have z1 : (a : Int) + (n : Int) + 1 ≤ (s.size : Int) := by omega
          clear hP2 hP3 hcr h10 z
          have hBz := ext_size s (a + n + 1) s.size
          have HSp := Lib.hid (split_any (s.extract (a + n + 1) s.size) w (by rw [hBz]; omega) m hm)
          have hst := Lib.hid (dotW_begin s (a + n + 1))
          have hmem := fun x => linB_mem (s := s.extract (a + n + 1) s.size) (x := x)
          have hLl := linB_len (s.extract (a + n + 1) s.size)
          generalize dotG (linN (s.data.toList.drop (a + n + 1))) = X at *
          generalize linB (s.extract (a + n + 1) s.size) = LB at *
          have hm0 := World.block_lt_of_cell? _ _ hm
          go_enter Tryz.func41, Tryz.ntmps41
          go_wp2_with (first
            | (go_at_call 73; (with_reducible refine (HS.out _).mono ?_); rintro e w1 ⟨rfl, rfl⟩)
            | (go_at_call 37; (with_reducible refine (HP1.out _).mono ?_); rintro e w1 ⟨rfl, rfl⟩)
            | (go_at_call 37; (with_reducible refine (HP2.out _).mono ?_); rintro e w1 ⟨rfl, rfl⟩)
            | (go_at_call 37; (with_reducible refine (HP3.out _).mono ?_); rintro e w1 ⟨rfl, rfl⟩)
            | (go_at_call 36; (with_reducible refine (HN.out _).mono ?_); rintro e w1 ⟨rfl, rfl⟩)
            | (go_at_call 76; (with_reducible refine HSp.out.mono ?_); rintro e w1 ⟨v, rfl, hown, hb1⟩; obtain ⟨p, c, rfl, hlc, hcells⟩ := strs_seen hown))
          have hz1 := hb1.size
          have HM := Lib.hid ((hb1.cell (p := ⟨0, 0, none⟩) hm0).trans hm)
          clear hown hm
          go_loop [4, 8, 43] (fun av _ iv => ∃ i t : Nat, iv = .int .i64 i ∧ i ≤ LB.length ∧ av = .int .i64 t ∧ Hid (DotW s (a + n + 1) LB X i t)) (fun _ _ iv => LB.length - (intOf iv).toNat)
          case atStart => exact ⟨0, a + n + 1, by first | rfl | trivial, Nat.zero_le _, by first | rfl | simp, hst⟩
          case round =>
            obtain ⟨i, t, rfl, hi, rfl, hrel⟩ := hrel
            clear hst
            obtain ⟨t0, t1⟩ := dotW_flat hrel.out (by omega)
            by_cases hlt : i < LB.length
            · rcases hcells with rfl | ⟨g, rfl, -, hc⟩
              · simp at hlt
              · replace hc := hc i hlt
                obtain ⟨x0, x1⟩ := hmem _ (List.getElem_mem hlt)
                obtain ⟨s1, s2⟩ := dotW_step hrel.out hlt
                obtain ⟨x, hxe⟩ : ∃ x, x = LB[i] := ⟨_, rfl⟩
                rw [← hxe] at hc x0 x1 s1 s2
                clear hxe
                have hBr := fun w => bareN_any x w (by omega)
                have hod := one_dot x.data.toList
                generalize toB (bareN x.data.toList) = Y at *
                have HBr := Lib.hid hBr
                have hil : (i : Int) < (LB.length : Int) := by omega
                cases hd : isDot x.data.toList with
                | true =>
                  have hX := Lib.hid (s1 hd)
                  rw [hd] at hod
                  have hUz := ext_size s (a + n + 1) t
                  have hU := unstuff_any (s.extract (a + n + 1) t) w1 (by rw [hUz]; omega) m HM.out
                  obtain ⟨Z, hZe, hZd, -⟩ := arrE (mapN unst (s.extract (a + n + 1) t).data.toList)
                  have hZ2 : toB (mapN unst (s.extract (a + n + 1) t).data.toList) = Z := hZe.symm
                  rw [hZ2] at hU
                  have HU := Lib.hid hU
                  have HX := Lib.hid (show X = some (Z.data.toList, t - (a + n + 1) + x.size) by rw [hZd]; exact hX.out)
                  clear hX hU hZe hZd hZ2
                  have hsz : x.size ≤ 10000000 := by omega
                  clear s1 s2 hrel hBr hd hUz hmem
                  go_wp2_with (first
                    | (go_at_call 77; (with_reducible refine (HBr.out _).mono ?_); rintro e w1 ⟨rfl, rfl⟩)
                    | (go_at_call 78; (with_reducible refine HU.out.mono ?_); rintro e w2 ⟨rfl, hb2⟩))
                  go_ret2
                  exact ⟨by rw [HX.out, ← pair_some (f := a + n + 1) (a := t + x.size) (b := t - (a + n + 1) + x.size) (by omega), toB_back]; rfl, hb1.trans (hb2.mono hz1)⟩
                | false =>
                  have hnx := Lib.hid (s2 hd)
                  rw [hd] at hod
                  have hsz : x.size ≤ 10000000 := by omega
                  clear s1 s2 hrel hBr hd hmem
                  go_wp2_with (go_at_call 77; (with_reducible refine (HBr.out _).mono ?_); rintro e w1 ⟨rfl, rfl⟩)
                  go_round
                  case rel => exact ⟨i + 1, t + x.size, by go_num, by omega, by go_num, hnx⟩
                  case measure => simp [intOf]; omega
            · have hX := Lib.hid (dotW_end hrel.out hlt)
              clear hrel
              go_wp2
              go_ret2
              exact ⟨by show _ = Ending.returned (PairT (Option.map _ X)); rw [hX.out]; rfl, hb1⟩
        · rw [if_neg h10]
          rw [decide_eq_false h10] at hP3
          have HP3 := Lib.hid hP3
          clear hP2 hP3 hcr h10
          go_enter Tryz.func41, Tryz.ntmps41
          go_wp2_with (first
            | (go_at_call 73; (with_reducible refine (HS.out _).mono ?_); rintro e w1 ⟨rfl, rfl⟩)
            | (go_at_call 37; (with_reducible refine (HP1.out _).mono ?_); rintro e w1 ⟨rfl, rfl⟩)
            | (go_at_call 37; (with_reducible refine (HP2.out _).mono ?_); rintro e w1 ⟨rfl, rfl⟩)
            | (go_at_call 37; (with_reducible refine (HP3.out _).mono ?_); rintro e w1 ⟨rfl, rfl⟩)
            | (go_at_call 36; (with_reducible refine (HN.out _).mono ?_); rintro e w1 ⟨rfl, rfl⟩))
          go_ret2
          exact ⟨rfl, Below.refl _ _⟩
    · rw [if_neg hix] at hnl
      rw [tail_out (by rw [dataL]; omega)]
      have HN := Lib.hid hN
      clear hN hng hnl
      go_enter Tryz.func41, Tryz.ntmps41
      go_wp2_with (first
        | (go_at_call 73; (with_reducible refine (HS.out _).mono ?_); rintro e w1 ⟨rfl, rfl⟩)
        | (go_at_call 37; (with_reducible refine (HP1.out _).mono ?_); rintro e w1 ⟨rfl, rfl⟩)
        | (go_at_call 36; (with_reducible refine (HN.out _).mono ?_); rintro e w1 ⟨rfl, rfl⟩))
      go_ret2
      exact ⟨rfl, Below.refl _ _⟩
  · rw [hn h35]
    rw [decide_eq_false h35] at hP1
    have HP1 := Lib.hid hP1
    have hP2 := hp_two (s.extract a s.size) 13 10
    rw [ext_from, ← List.drop_one, List.drop_drop] at hP2
    have z0 : (a : Int) ≤ (s.size : Int) := by omega
    clear hh hn h35 hP1 hS
    by_cases hcr : (s.data.toList.drop a).head? = some 13 ∧ (s.data.toList.drop (a + 1)).head? = some 10
    · rw [tail_crlf hcr]
      rw [decide_eq_true hcr] at hP2
      have HP2 := Lib.hid hP2
      have hP3 := hp_one (s.extract (a + 1) s.size) 10
      rw [ext_from, decide_eq_true hcr.2] at hP3
      have HP3 := Lib.hid hP3
      have z := hd_lt hcr.2
      rw [dataL] at z
      have z1 : (a : Int) + 1 ≤ (s.size : Int) := by omega
      have z2 : (a : Int) + 1 + 1 ≤ (s.size : Int) := by omega
      clear hP2 hP3 hcr z
      have hBz := ext_size s (a + 1 + 1) s.size
      have HSp := Lib.hid (split_any (s.extract (a + 1 + 1) s.size) w (by rw [hBz]; omega) m hm)
      have hst := Lib.hid (dotW_begin s (a + 1 + 1))
      have hmem := fun x => linB_mem (s := s.extract (a + 1 + 1) s.size) (x := x)
      have hLl := linB_len (s.extract (a + 1 + 1) s.size)
      generalize dotG (linN (s.data.toList.drop (a + 1 + 1))) = X at *
      generalize linB (s.extract (a + 1 + 1) s.size) = LB at *
      have hm0 := World.block_lt_of_cell? _ _ hm
      go_enter Tryz.func41, Tryz.ntmps41
      go_wp2_with (first
        | (go_at_call 73; (with_reducible refine (HS.out _).mono ?_); rintro e w1 ⟨rfl, rfl⟩)
        | (go_at_call 37; (with_reducible refine (HP1.out _).mono ?_); rintro e w1 ⟨rfl, rfl⟩)
        | (go_at_call 37; (with_reducible refine (HP2.out _).mono ?_); rintro e w1 ⟨rfl, rfl⟩)
        | (go_at_call 37; (with_reducible refine (HP3.out _).mono ?_); rintro e w1 ⟨rfl, rfl⟩)
        | (go_at_call 36; (with_reducible refine (HN.out _).mono ?_); rintro e w1 ⟨rfl, rfl⟩)
        | (go_at_call 76; (with_reducible refine HSp.out.mono ?_); rintro e w1 ⟨v, rfl, hown, hb1⟩; obtain ⟨p, c, rfl, hlc, hcells⟩ := strs_seen hown))
      have hz1 := hb1.size
      have HM := Lib.hid ((hb1.cell (p := ⟨0, 0, none⟩) hm0).trans hm)
      clear hown hm
      go_loop [4, 8, 43] (fun av _ iv => ∃ i t : Nat, iv = .int .i64 i ∧ i ≤ LB.length ∧ av = .int .i64 t ∧ Hid (DotW s (a + 1 + 1) LB X i t)) (fun _ _ iv => LB.length - (intOf iv).toNat)
      case atStart => exact ⟨0, a + 1 + 1, by first | rfl | trivial, Nat.zero_le _, by first | rfl | simp, hst⟩
      case round =>
        obtain ⟨i, t, rfl, hi, rfl, hrel⟩ := hrel
        clear hst
        obtain ⟨t0, t1⟩ := dotW_flat hrel.out (by omega)
        by_cases hlt : i < LB.length
        · rcases hcells with rfl | ⟨g, rfl, -, hc⟩
          · simp at hlt
          · replace hc := hc i hlt
            obtain ⟨x0, x1⟩ := hmem _ (List.getElem_mem hlt)
            obtain ⟨s1, s2⟩ := dotW_step hrel.out hlt
            obtain ⟨x, hxe⟩ : ∃ x, x = LB[i] := ⟨_, rfl⟩
            rw [← hxe] at hc x0 x1 s1 s2
            clear hxe
            have hBr := fun w => bareN_any x w (by omega)
            have hod := one_dot x.data.toList
            generalize toB (bareN x.data.toList) = Y at *
            have HBr := Lib.hid hBr
            have hil : (i : Int) < (LB.length : Int) := by omega
            cases hd : isDot x.data.toList with
            | true =>
              have hX := Lib.hid (s1 hd)
              rw [hd] at hod
              have hUz := ext_size s (a + 1 + 1) t
              have hU := unstuff_any (s.extract (a + 1 + 1) t) w1 (by rw [hUz]; omega) m HM.out
              obtain ⟨Z, hZe, hZd, -⟩ := arrE (mapN unst (s.extract (a + 1 + 1) t).data.toList)
              have hZ2 : toB (mapN unst (s.extract (a + 1 + 1) t).data.toList) = Z := hZe.symm
              rw [hZ2] at hU
              have HU := Lib.hid hU
              have HX := Lib.hid (show X = some (Z.data.toList, t - (a + 1 + 1) + x.size) by rw [hZd]; exact hX.out)
              clear hX hU hZe hZd hZ2
              have hsz : x.size ≤ 10000000 := by omega
              clear s1 s2 hrel hBr hd hUz hmem
              go_wp2_with (first
                | (go_at_call 77; (with_reducible refine (HBr.out _).mono ?_); rintro e w1 ⟨rfl, rfl⟩)
                | (go_at_call 78; (with_reducible refine HU.out.mono ?_); rintro e w2 ⟨rfl, hb2⟩))
              go_ret2
              exact ⟨by rw [HX.out, ← pair_some (f := a + 1 + 1) (a := t + x.size) (b := t - (a + 1 + 1) + x.size) (by omega), toB_back]; rfl, hb1.trans (hb2.mono hz1)⟩
            | false =>
              have hnx := Lib.hid (s2 hd)
              rw [hd] at hod
              have hsz : x.size ≤ 10000000 := by omega
              clear s1 s2 hrel hBr hd hmem
              go_wp2_with (go_at_call 77; (with_reducible refine (HBr.out _).mono ?_); rintro e w1 ⟨rfl, rfl⟩)
              go_round
              case rel => exact ⟨i + 1, t + x.size, by go_num, by omega, by go_num, hnx⟩
              case measure => simp [intOf]; omega
        · have hX := Lib.hid (dotW_end hrel.out hlt)
          clear hrel
          go_wp2
          go_ret2
          exact ⟨by show _ = Ending.returned (PairT (Option.map _ X)); rw [hX.out]; rfl, hb1⟩
    · rw [tail_lf hcr]
      rw [decide_eq_false hcr] at hP2
      have HP2 := Lib.hid hP2
      have hP3 := hp_one (s.extract a s.size) 10
      rw [ext_from] at hP3
      by_cases h10 : (s.data.toList.drop a).head? = some 10
      · rw [if_pos h10]
        rw [decide_eq_true h10] at hP3
        have HP3 := Lib.hid hP3
        have z := hd_lt h10
        rw [dataL] at z
        have z1 : (a : Int) + 1 ≤ (s.size : Int) := by omega
        clear hP2 hP3 hcr h10 z
        have hBz := ext_size s (a + 1) s.size
        have HSp := Lib.hid (split_any (s.extract (a + 1) s.size) w (by rw [hBz]; omega) m hm)
        have hst := Lib.hid (dotW_begin s (a + 1))
        have hmem := fun x => linB_mem (s := s.extract (a + 1) s.size) (x := x)
        have hLl := linB_len (s.extract (a + 1) s.size)
        generalize dotG (linN (s.data.toList.drop (a + 1))) = X at *
        generalize linB (s.extract (a + 1) s.size) = LB at *
        have hm0 := World.block_lt_of_cell? _ _ hm
        go_enter Tryz.func41, Tryz.ntmps41
        go_wp2_with (first
          | (go_at_call 73; (with_reducible refine (HS.out _).mono ?_); rintro e w1 ⟨rfl, rfl⟩)
          | (go_at_call 37; (with_reducible refine (HP1.out _).mono ?_); rintro e w1 ⟨rfl, rfl⟩)
          | (go_at_call 37; (with_reducible refine (HP2.out _).mono ?_); rintro e w1 ⟨rfl, rfl⟩)
          | (go_at_call 37; (with_reducible refine (HP3.out _).mono ?_); rintro e w1 ⟨rfl, rfl⟩)
          | (go_at_call 36; (with_reducible refine (HN.out _).mono ?_); rintro e w1 ⟨rfl, rfl⟩)
          | (go_at_call 76; (with_reducible refine HSp.out.mono ?_); rintro e w1 ⟨v, rfl, hown, hb1⟩; obtain ⟨p, c, rfl, hlc, hcells⟩ := strs_seen hown))
        have hz1 := hb1.size
        have HM := Lib.hid ((hb1.cell (p := ⟨0, 0, none⟩) hm0).trans hm)
        clear hown hm
        go_loop [4, 8, 43] (fun av _ iv => ∃ i t : Nat, iv = .int .i64 i ∧ i ≤ LB.length ∧ av = .int .i64 t ∧ Hid (DotW s (a + 1) LB X i t)) (fun _ _ iv => LB.length - (intOf iv).toNat)
        case atStart => exact ⟨0, a + 1, by first | rfl | trivial, Nat.zero_le _, by first | rfl | simp, hst⟩
        case round =>
          obtain ⟨i, t, rfl, hi, rfl, hrel⟩ := hrel
          clear hst
          obtain ⟨t0, t1⟩ := dotW_flat hrel.out (by omega)
          by_cases hlt : i < LB.length
          · rcases hcells with rfl | ⟨g, rfl, -, hc⟩
            · simp at hlt
            · replace hc := hc i hlt
              obtain ⟨x0, x1⟩ := hmem _ (List.getElem_mem hlt)
              obtain ⟨s1, s2⟩ := dotW_step hrel.out hlt
              obtain ⟨x, hxe⟩ : ∃ x, x = LB[i] := ⟨_, rfl⟩
              rw [← hxe] at hc x0 x1 s1 s2
              clear hxe
              have hBr := fun w => bareN_any x w (by omega)
              have hod := one_dot x.data.toList
              generalize toB (bareN x.data.toList) = Y at *
              have HBr := Lib.hid hBr
              have hil : (i : Int) < (LB.length : Int) := by omega
              cases hd : isDot x.data.toList with
              | true =>
                have hX := Lib.hid (s1 hd)
                rw [hd] at hod
                have hUz := ext_size s (a + 1) t
                have hU := unstuff_any (s.extract (a + 1) t) w1 (by rw [hUz]; omega) m HM.out
                obtain ⟨Z, hZe, hZd, -⟩ := arrE (mapN unst (s.extract (a + 1) t).data.toList)
                have hZ2 : toB (mapN unst (s.extract (a + 1) t).data.toList) = Z := hZe.symm
                rw [hZ2] at hU
                have HU := Lib.hid hU
                have HX := Lib.hid (show X = some (Z.data.toList, t - (a + 1) + x.size) by rw [hZd]; exact hX.out)
                clear hX hU hZe hZd hZ2
                have hsz : x.size ≤ 10000000 := by omega
                clear s1 s2 hrel hBr hd hUz hmem
                go_wp2_with (first
                  | (go_at_call 77; (with_reducible refine (HBr.out _).mono ?_); rintro e w1 ⟨rfl, rfl⟩)
                  | (go_at_call 78; (with_reducible refine HU.out.mono ?_); rintro e w2 ⟨rfl, hb2⟩))
                go_ret2
                exact ⟨by rw [HX.out, ← pair_some (f := a + 1) (a := t + x.size) (b := t - (a + 1) + x.size) (by omega), toB_back]; rfl, hb1.trans (hb2.mono hz1)⟩
              | false =>
                have hnx := Lib.hid (s2 hd)
                rw [hd] at hod
                have hsz : x.size ≤ 10000000 := by omega
                clear s1 s2 hrel hBr hd hmem
                go_wp2_with (go_at_call 77; (with_reducible refine (HBr.out _).mono ?_); rintro e w1 ⟨rfl, rfl⟩)
                go_round
                case rel => exact ⟨i + 1, t + x.size, by go_num, by omega, by go_num, hnx⟩
                case measure => simp [intOf]; omega
          · have hX := Lib.hid (dotW_end hrel.out hlt)
            clear hrel
            go_wp2
            go_ret2
            exact ⟨by show _ = Ending.returned (PairT (Option.map _ X)); rw [hX.out]; rfl, hb1⟩
      · rw [if_neg h10]
        rw [decide_eq_false h10] at hP3
        have HP3 := Lib.hid hP3
        clear hP2 hP3 hcr h10
        go_enter Tryz.func41, Tryz.ntmps41
        go_wp2_with (first
          | (go_at_call 73; (with_reducible refine (HS.out _).mono ?_); rintro e w1 ⟨rfl, rfl⟩)
          | (go_at_call 37; (with_reducible refine (HP1.out _).mono ?_); rintro e w1 ⟨rfl, rfl⟩)
          | (go_at_call 37; (with_reducible refine (HP2.out _).mono ?_); rintro e w1 ⟨rfl, rfl⟩)
          | (go_at_call 37; (with_reducible refine (HP3.out _).mono ?_); rintro e w1 ⟨rfl, rfl⟩))
        go_ret2
        exact ⟨rfl, Below.refl _ _⟩
end Go.Proofs.YtgimgkjggaijoaaGreatDoor
