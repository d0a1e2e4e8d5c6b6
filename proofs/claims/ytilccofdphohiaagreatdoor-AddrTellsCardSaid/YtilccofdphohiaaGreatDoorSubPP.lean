/- Plain: base subjects. Plain: what the program's small functions compute. -/
import Derived.Test.YtilccofdphohiaaGreatDoorUtx
import Derived.Lib.Bytealg
import Derived.Lib.Strings
namespace Su
open Go Pk U8

def lowc (c : UInt8) : UInt8 := if 65 ≤ c.toNat ∧ c.toNat ≤ 90 then c + 32 else c
/-- what stands behind a lower-case mark -/
def st (m l : List UInt8) : Option (List UInt8) := if (l.take m.length).map lowc = m then some (l.drop m.length) else none
theorem st_some {m l t : List UInt8} (h : st m l = some t) : (l.take m.length).map lowc = m ∧ t = l.drop m.length ∧ m.length ≤ l.length := by
  unfold st at h
  split at h
  · rename_i c
    injection h with h
    refine ⟨c, h.symm, ?_⟩
    have := congrArg List.length c
    simp at this; omega
  · cases h
def free (l : List UInt8) : List UInt8 := l.dropWhile (· == 32)
theorem free_cons (c : UInt8) (r : List UInt8) : free (c :: r) = if c = 32 then free r else c :: r := by
  unfold free
  by_cases h : c = 32
  · subst h; rfl
  · rw [if_neg h, List.dropWhile_cons_of_neg (by simpa using h)]
theorem free_length (l : List UInt8) : (free l).length ≤ l.length := (List.dropWhile_sublist _).length_le
theorem free_free (l : List UInt8) : free (free l) = free l := by
  induction l with
  | nil => rfl
  | cons c r ih =>
    rw [free_cons]
    split
    · exact ih
    · rename_i h; rw [free_cons, if_neg h]
def blobIn : List UInt8 → Option (List UInt8)
  | [] => none
  | c :: r => if c = 93 then some (free r) else if c = 91 then none else blobIn r
def blob : List UInt8 → Option (List UInt8)
  | [] => none
  | c :: r => if c = 91 then blobIn r else none
theorem blobIn_lt : ∀ (l t : List UInt8), blobIn l = some t → t.length < l.length
  | [], _, h => by cases h
  | c :: r, t, h => by
    unfold blobIn at h
    split at h
    · injection h with h; subst h; have := free_length r; simp; omega
    · split at h
      · cases h
      · have := blobIn_lt r t h; simp; omega
theorem blob_lt (l t : List UInt8) (h : blob l = some t) : t.length < l.length := by
  cases l with
  | nil => cases h
  | cons c r =>
    rw [show blob (c :: r) = if c = 91 then blobIn r else none from rfl] at h
    split at h
    · have := blobIn_lt r t h; simp; omega
    · cases h
theorem blob_head {l t : List UInt8} (h : blob l = some t) : ∃ r, l = 91 :: r := by
  cases l with
  | nil => cases h
  | cons c r =>
    rw [show blob (c :: r) = if c = 91 then blobIn r else none from rfl] at h
    split at h
    · rename_i e; exact ⟨r, by rw [e]⟩
    · cases h
def skipF : Nat → List UInt8 → List UInt8
  | 0, t => t
  | f + 1, t => match blob t with
    | some u => skipF f u
    | none => t
def skip (t : List UInt8) : List UInt8 := skipF t.length t
theorem skipF_more : ∀ (f : Nat) (t : List UInt8), t.length ≤ f → skipF f t = skip t := by
  intro f
  induction f using Nat.strongRecOn with
  | _ f ih =>
    intro t ht
    cases f with
    | zero => have : t = [] := List.eq_nil_of_length_eq_zero (by omega); subst this; rfl
    | succ f =>
      unfold skip
      cases hl : t.length with
      | zero => have : t = [] := List.eq_nil_of_length_eq_zero hl; subst this; rfl
      | succ n =>
        unfold skipF
        cases hb : blob t with
        | none => rfl
        | some u =>
          have hlt := blob_lt t u hb
          simp only
          rw [ih f (by omega) u (by omega)]
          by_cases hn : n < f + 1
          · rw [ih n hn u (by omega)]
          · have : n = f := by omega
            subst this; rw [ih n (by omega) u (by omega)]
theorem skip_some {t u : List UInt8} (h : blob t = some u) : skip t = skip u := by
  have hlt := blob_lt t u h
  conv => lhs; unfold skip
  cases hl : t.length with
  | zero => omega
  | succ n =>
    unfold skipF
    rw [h]
    simp only
    exact skipF_more n u (by omega)
theorem skip_none {t : List UInt8} (h : blob t = none) : skip t = t := by
  unfold skip
  cases hl : t.length with
  | zero => rfl
  | succ n => unfold skipF; rw [h]
def re : List UInt8 := [114, 101]
def fwd : List UInt8 := [102, 119, 100]
def fw : List UInt8 := [102, 119]
def tryMark (m t : List UInt8) : Option (List UInt8) := match st m t with
  | none => none
  | some r => match (blob (free r)).getD (free r) with
    | 58 :: q => some (free q)
    | _ => none
def answer (l : List UInt8) : Option (List UInt8) := match tryMark re (skip l) with
  | some t => some t
  | none => match tryMark fwd (skip l) with
    | some t => some t
    | none => tryMark fw (skip l)
def fwdT : List UInt8 := [40, 102, 119, 100, 41]
def endsF (l : List UInt8) : Bool := decide (5 ≤ l.length) && ((l.drop (l.length - 5)).map lowc == fwdT)
def fwdB : List UInt8 := [91, 102, 119, 100, 58]
def wrap (l : List UInt8) : Option (List UInt8) := match st fwdB l with
  | some t => if t.getLast? = some 93 then some t.dropLast else none
  | none => none
/-- the first step that changes a subject; and whether it was the mark of a reply or forward -/
def stepR (l : List UInt8) : Option (List UInt8 × Bool) :=
  if l.getLast? = some 32 then some (l.dropLast, false)
  else if endsF l = true then some (l.take (l.length - 5), true)
  else if l.head? = some 32 then some (l.tail, false)
  else match answer l with
    | some t => some (t, true)
    | none => match blob l with
      | some t => if t = [] then (wrap l).map (·, true) else some (t, false)
      | none => (wrap l).map (·, true)
theorem last_pos {l : List UInt8} {c : UInt8} (h : l.getLast? = some c) : 0 < l.length := by cases l with
  | nil => cases h
  | cons a r => simp
theorem tryMark_lt {m t u : List UInt8} (h : tryMark m t = some u) : u.length < t.length := by
  unfold tryMark at h
  cases hs : st m t with
  | none => rw [hs] at h; cases h
  | some r =>
    obtain ⟨-, hr, hm⟩ := st_some hs
    rw [hs] at h
    simp only at h
    have hlen : ((blob (free r)).getD (free r)).length ≤ t.length := by
      have h1 := free_length r
      have h2 : r.length ≤ t.length := by rw [hr, List.length_drop]; omega
      cases hb : blob (free r) with
      | none => simp; omega
      | some x => have := blob_lt _ _ hb; simp; omega
    split at h
    · rename_i q hq
      injection h with h
      subst h
      rw [hq] at hlen
      have := free_length q
      simp at hlen; omega
    · cases h
theorem skip_le : ∀ (n : Nat) (t : List UInt8), t.length ≤ n → (skip t).length ≤ t.length := by
  intro n
  induction n with
  | zero => intro t h; have : t = [] := List.eq_nil_of_length_eq_zero (by omega); subst this; exact Nat.le_refl _
  | succ n ih =>
    intro t h
    cases hb : blob t with
    | none => rw [skip_none hb]; exact Nat.le_refl _
    | some u =>
      have hlt := blob_lt t u hb
      rw [skip_some hb]
      have := ih u (by omega)
      omega
theorem answer_lt {l t : List UInt8} (h : answer l = some t) : t.length < l.length := by
  have hs := skip_le _ l (Nat.le_refl _)
  unfold answer at h
  split at h
  · rename_i u hu; injection h with h; subst h; have := tryMark_lt hu; omega
  · split at h
    · rename_i u hu; injection h with h; subst h; have := tryMark_lt hu; omega
    · have := tryMark_lt h; omega
theorem wrap_lt {l t : List UInt8} (h : wrap l = some t) : t.length < l.length := by
  unfold wrap at h
  cases hs : st fwdB l with
  | none => rw [hs] at h; cases h
  | some r =>
    obtain ⟨-, hr, hm⟩ := st_some hs
    rw [hs] at h
    simp only at h
    split at h
    · injection h with h
      subst h
      rw [hr]
      have : fwdB.length = 5 := rfl
      simp; omega
    · cases h
theorem stepR_lt {l t : List UInt8} {b : Bool} (h : stepR l = some (t, b)) : t.length < l.length := by
  unfold stepR at h
  split at h
  · rename_i c; have := last_pos c
    simp at h; rw [← h.1]; simp; omega
  · split at h
    · rename_i c
      simp at h
      unfold endsF at c
      simp at c
      rw [← h.1]; simp; omega
    · split at h
      · rename_i c
        simp at h
        rw [← h.1]
        cases l with
        | nil => cases c
        | cons a r => simp
      · split at h
        · rename_i u hu
          simp at h
          rw [← h.1]; exact answer_lt hu
        · split at h
          · rename_i u hu
            split at h
            · simp only [Option.map_eq_some_iff] at h
              obtain ⟨x, hx, he⟩ := h
              simp at he
              rw [← he.1]; exact wrap_lt hx
            · simp at h
              rw [← h.1]; exact blob_lt _ _ hu
          · simp only [Option.map_eq_some_iff] at h
            obtain ⟨x, hx, he⟩ := h
            simp at he
            rw [← he.1]; exact wrap_lt hx
def redF : Nat → List UInt8 → List UInt8 × Bool
  | 0, l => (l, false)
  | f + 1, l => match stepR l with
    | none => (l, false)
    | some (t, is) => ((redF f t).1, is || (redF f t).2)
def red (l : List UInt8) : List UInt8 × Bool := redF l.length l
theorem step_nil : stepR [] = none := by decide
theorem redF_more : ∀ (f : Nat) (l : List UInt8), l.length ≤ f → redF f l = red l := by
  intro f
  induction f using Nat.strongRecOn with
  | _ f ih =>
    intro l hl
    cases f with
    | zero => have : l = [] := List.eq_nil_of_length_eq_zero (by omega); subst this; rfl
    | succ f =>
      unfold red
      cases hn : l.length with
      | zero =>
        have : l = [] := List.eq_nil_of_length_eq_zero hn
        subst this
        unfold redF; rw [step_nil]
      | succ n =>
        unfold redF
        cases hs : stepR l with
        | none => rfl
        | some p =>
          obtain ⟨t, b⟩ := p
          have hlt := stepR_lt hs
          simp only
          have e1 := ih f (by omega) t (by omega)
          have e2 : redF n t = red t := by
            by_cases h : n < f + 1
            · exact ih n h t (by omega)
            · have : n = f := by omega
              subst this; exact e1
          rw [e1, e2]
theorem red_none {l : List UInt8} (h : stepR l = none) : red l = (l, false) := by
  unfold red
  cases hn : l.length with
  | zero => rfl
  | succ n => unfold redF; rw [h]
theorem red_some {l t : List UInt8} {b : Bool} (h : stepR l = some (t, b)) : red l = ((red t).1, b || (red t).2) := by
  have hlt := stepR_lt h
  conv => lhs; unfold red
  cases hn : l.length with
  | zero => omega
  | succ n =>
    unfold redF
    rw [h]
    simp only
    rw [redF_more n t (by omega)]
/-! the program's five steps -/
def trimR (l : List UInt8) : List UInt8 := (l.reverse.dropWhile (· == 32)).reverse
theorem trimR_snoc (l : List UInt8) (c : UInt8) : trimR (l ++ [c]) = if c = 32 then trimR l else l ++ [c] := by
  unfold trimR
  rw [List.reverse_append, List.reverse_singleton, List.singleton_append]
  by_cases h : c = 32
  · subst h; rw [if_pos rfl]; rfl
  · rw [if_neg h, List.dropWhile_cons_of_neg (by simpa using h)]; simp
theorem snoc_cases (l : List UInt8) : l = [] ∨ ∃ r c, l = r ++ [c] := by
  rcases List.eq_nil_or_concat l with h | ⟨r, c, h⟩
  · exact .inl h
  · exact .inr ⟨r, c, by rw [h, List.concat_eq_append]⟩
/-- step 1, its first half -/
theorem red_trim : ∀ (n : Nat) (l : List UInt8), l.length ≤ n → red (trimR l) = red l := by
  intro n
  induction n with
  | zero => intro l h; have : l = [] := List.eq_nil_of_length_eq_zero (by omega); subst this; rfl
  | succ n ih =>
    intro l h
    rcases snoc_cases l with rfl | ⟨r, c, rfl⟩
    · rfl
    · rw [trimR_snoc]
      split
      · rename_i hc
        subst hc
        have hs : stepR (r ++ [32]) = some (r, false) := by unfold stepR; rw [if_pos (by simp)]; simp
        rw [red_some hs, Bool.false_or]
        exact ih r (by simp at h; omega)
      · rfl
theorem trimR_eq {l : List UInt8} : trimR l = l ↔ l.getLast? ≠ some 32 := by
  rcases snoc_cases l with rfl | ⟨r, c, rfl⟩
  · simp [trimR]
  · rw [trimR_snoc]
    split
    · rename_i hc
      subst hc
      constructor
      · intro h
        have h1 : (trimR r).length ≤ r.length := by
          unfold trimR; rw [List.length_reverse]
          exact Nat.le_trans (List.dropWhile_sublist _).length_le (by simp)
        have := congrArg List.length h
        simp at this; omega
      · intro h; simp at h
    · rename_i hc; simp [hc]
/-- step 1, its second half -/
theorem red_fwd {l : List UInt8} (h1 : l.getLast? ≠ some 32) (h2 : endsF l = true) : red l = ((red (l.take (l.length - 5))).1, true || (red (l.take (l.length - 5))).2) :=
  red_some (by unfold stepR; rw [if_neg h1, if_pos h2])
theorem endsF_cons (c : UInt8) (r : List UInt8) (h : 5 ≤ r.length) : endsF (c :: r) = endsF r := by
  unfold endsF
  rw [List.length_cons, decide_eq_true (show 5 ≤ r.length + 1 by omega), decide_eq_true h, show r.length + 1 - 5 = (r.length - 5) + 1 by omega, List.drop_succ_cons]
theorem endsF_short (l : List UInt8) (h : l.length < 5) : endsF l = false := by
  unfold endsF; rw [decide_eq_false (by omega)]; rfl
/-- step 2 -/
theorem red_free : ∀ (l : List UInt8), l.getLast? ≠ some 32 → endsF l = false → red (free l) = red l
  | [], _, _ => rfl
  | c :: r, h1, h2 => by
    rw [free_cons]
    split
    · rename_i hc
      subst hc
      have hs : stepR (32 :: r) = some (r, false) := by
        unfold stepR; rw [if_neg h1, if_neg (by rw [h2]; decide), if_pos (show (32 :: r).head? = some 32 from rfl)]; rfl
      have h1' : r.getLast? ≠ some 32 := by
        cases r with
        | nil => simp
        | cons a b => rw [List.getLast?_cons_cons] at h1; exact h1
      have h2' : endsF r = false := by
        by_cases h5 : 5 ≤ r.length
        · rw [← endsF_cons 32 r h5]; exact h2
        · exact endsF_short r (by omega)
      rw [red_some hs, Bool.false_or]
      exact red_free r h1' h2'
    · rfl
theorem free_eq {l : List UInt8} : free l = l ↔ l.head? ≠ some 32 := by
  cases l with
  | nil => simp [free]
  | cons c r =>
    rw [free_cons]
    split
    · rename_i hc
      subst hc
      constructor
      · intro h
        have h1 := free_length r
        have := congrArg List.length h
        simp at this; omega
      · intro h; simp at h
    · rename_i hc; simp [hc]
/-- steps 3, 4, 5, behind steps 1 and 2 -/
theorem red_answer {l t : List UInt8} (h1 : l.getLast? ≠ some 32) (h2 : endsF l = false) (h3 : l.head? ≠ some 32) (h : answer l = some t) : red l = ((red t).1, true || (red t).2) :=
  red_some (by unfold stepR; rw [if_neg h1, if_neg (by rw [h2]; decide), if_neg h3, h])
theorem red_mark {l t : List UInt8} (h1 : l.getLast? ≠ some 32) (h2 : endsF l = false) (h3 : l.head? ≠ some 32) (h4 : answer l = none) (h : blob l = some t) (ht : t ≠ []) : red l = red t := by
  have hs : stepR l = some (t, false) := by unfold stepR; rw [if_neg h1, if_neg (by rw [h2]; decide), if_neg h3, h4, h]; simp only; rw [if_neg ht]
  rw [red_some hs, Bool.false_or]
theorem red_wrap {l t : List UInt8} (h1 : l.getLast? ≠ some 32) (h2 : endsF l = false) (h3 : l.head? ≠ some 32) (h4 : answer l = none) (h5 : ∀ t, blob l = some t → t = []) (h : wrap l = some t) : red l = ((red t).1, true || (red t).2) :=
  red_some (by
    unfold stepR; rw [if_neg h1, if_neg (by rw [h2]; decide), if_neg h3, h4]
    cases hb : blob l with
    | none => simp only; rw [h]; rfl
    | some u => simp only; rw [if_pos (h5 u hb), h]; rfl)
theorem red_stays {l : List UInt8} (h1 : l.getLast? ≠ some 32) (h2 : endsF l = false) (h3 : l.head? ≠ some 32) (h4 : answer l = none) (h5 : ∀ t, blob l = some t → t = []) (h : wrap l = none) : red l = (l, false) :=
  red_none (by
    unfold stepR; rw [if_neg h1, if_neg (by rw [h2]; decide), if_neg h3, h4]
    cases hb : blob l with
    | none => simp only; rw [h]; rfl
    | some u => simp only; rw [if_pos (h5 u hb), h]; rfl)
/-- normal blanks: each run of them is one space -/
def blk (c : UInt8) : Bool := c == 9 || c == 10 || c == 13 || c == 32
def col : Bool → List UInt8 → List UInt8
  | _, [] => []
  | b, c :: r => if blk c = true then (if b = true then col true r else 32 :: col true r) else c :: col false r
def plain (l : List UInt8) : List UInt8 := col false (repairL l)
theorem col_length : ∀ (l : List UInt8) (b : Bool), (col b l).length ≤ l.length
  | [], _ => by simp [col]
  | c :: r, b => by
    unfold col
    have h1 := col_length r true
    have h2 := col_length r false
    repeat' split
    all_goals simp
    all_goals omega
end Su
namespace Su
open Go Pk U8

def stP (m l : List UInt8) : List UInt8 × Bool := match st m l with
  | some t => (t, true)
  | none => (l, false)
def blobP (l : List UInt8) : List UInt8 × Bool := match blob l with
  | some t => (t, true)
  | none => (l, false)
def endP (l : List UInt8) : List UInt8 × Bool := if trimR l ≠ l then (trimR l, false) else if endsF l = true then (l.take (l.length - 5), true) else (l, false)
def answerP (l : List UInt8) : List UInt8 × Bool := match answer l with
  | some t => (t, true)
  | none => (l, false)
def markP (l : List UInt8) : List UInt8 × Bool := match blob l with
  | some t => if free t ≠ [] then (t, false) else (l, false)
  | none => (l, false)
def wrapP (l : List UInt8) : List UInt8 × Bool := match wrap l with
  | some t => (t, true)
  | none => (l, false)
theorem ib_cons (c d : UInt8) (r : List UInt8) : Lib.indexByte (c :: r) d = if c = d then 0 else if Lib.indexByte r d = -1 then -1 else Lib.indexByte r d + 1 := by
  conv => lhs; unfold Lib.indexByte
  by_cases h : c = d
  · rw [if_pos h, if_pos (by simpa using h)]
  · rw [if_neg h, if_neg (by simpa using h)]
    by_cases h2 : Lib.indexByte r d = -1
    · rw [if_pos h2, if_pos (by simpa using h2)]
    · rw [if_neg h2, if_neg (by simpa using h2)]
theorem ib_lt : ∀ (l : List UInt8) (d : UInt8) (j : Nat), Lib.indexByte l d = j → j < l.length
  | [], d, j, h => by rw [show Lib.indexByte [] d = -1 from rfl] at h; omega
  | c :: r, d, j, h => by
    rw [ib_cons] at h
    rw [List.length_cons]
    split at h
    · omega
    · split at h
      · omega
      · have hg := Lib.indexByte_ge r d
        have := ib_lt r d (j - 1) (by omega)
        omega
theorem blobIn_ix : ∀ r : List UInt8, (Lib.indexByte r 93 = -1 → blobIn r = none) ∧ ∀ j : Nat, Lib.indexByte r 93 = j → (0 ≤ Lib.indexByte (r.take j) 91 → blobIn r = none) ∧ (Lib.indexByte (r.take j) 91 < 0 → blobIn r = some (free (r.drop (j + 1))))
  | [] => ⟨fun _ => rfl, fun j h => by rw [show Lib.indexByte [] 93 = -1 from rfl] at h; omega⟩
  | c :: r => by
    have ih := blobIn_ix r
    have hg := Lib.indexByte_ge r 93
    have e : blobIn (c :: r) = if c = 93 then some (free r) else if c = 91 then none else blobIn r := rfl
    rw [ib_cons, e]
    by_cases h93 : c = 93
    · rw [if_pos h93, if_pos h93]
      refine ⟨fun h => by omega, fun j hj => ?_⟩
      obtain rfl : j = 0 := by omega
      exact ⟨fun h => by rw [List.take_zero, show Lib.indexByte [] 91 = -1 from rfl] at h; omega, fun _ => rfl⟩
    · rw [if_neg h93, if_neg h93]
      constructor
      · intro h
        split at h
        · rename_i h'
          rw [ih.1 h']; split <;> rfl
        · omega
      · intro j hj
        split at hj
        · omega
        · obtain ⟨k, rfl⟩ : ∃ k, j = k + 1 := ⟨j - 1, by omega⟩
          have hk := ih.2 k (by omega)
          rw [List.take_succ_cons, ib_cons, List.drop_succ_cons]
          have hg2 := Lib.indexByte_ge (r.take k) 91
          by_cases h91 : c = 91
          · rw [if_pos h91, if_pos h91]
            exact ⟨fun _ => rfl, fun h => by omega⟩
          · rw [if_neg h91, if_neg h91]
            split
            · rename_i h'
              exact ⟨fun h => by omega, fun _ => hk.2 (by omega)⟩
            · exact ⟨fun _ => hk.1 (by omega), fun h => by omega⟩
theorem ext_listS (x : ByteArray) (i j : Nat) : (x.extract i j).data.toList = (x.data.toList.drop i).take (j - i) := by rw [← Lib.extract_toList, Lib.toList_data]
theorem blob_facts (s : ByteArray) : (Lib.indexByte s.data.toList 93 < 1 ∧ blob s.data.toList = none) ∨
    (∃ (J : Nat) (h : J + 1 < s.size), Lib.indexByte s.data.toList 93 = ((J + 1 : Nat) : Int) ∧ ((s[0] ≠ 91 ∧ blob s.data.toList = none) ∨ (s[0] = 91 ∧ 0 ≤ Lib.indexByte (s.extract 1 (J + 1)).data.toList 91 ∧ blob s.data.toList = none) ∨
      (s[0] = 91 ∧ Lib.indexByte (s.extract 1 (J + 1)).data.toList 91 < 0 ∧ blob s.data.toList = some (free (s.data.toList.drop (J + 2)))))) := by
  have hg := Lib.indexByte_ge s.data.toList 93
  by_cases h0 : 0 < s.size
  · have hl : s.data.toList = s[0] :: tl s 1 := by rw [← tl_zero, tl_cons s 0 h0]
    have hb : blob s.data.toList = if s[0] = 91 then blobIn (tl s 1) else none := by rw [hl]; rfl
    by_cases hi : Lib.indexByte s.data.toList 93 < 1
    · left
      refine ⟨hi, ?_⟩
      rw [hb]
      split
      · rename_i h91
        rw [hl, ib_cons, h91] at hi
        rw [if_neg (by decide)] at hi
        have hg2 := Lib.indexByte_ge (tl s 1) 93
        split at hi
        · rename_i h'; exact (blobIn_ix (tl s 1)).1 h'
        · omega
      · rfl
    · right
      obtain ⟨J, hJ⟩ : ∃ J : Nat, Lib.indexByte s.data.toList 93 = ((J + 1 : Nat) : Int) := ⟨(Lib.indexByte s.data.toList 93 - 1).toNat, by omega⟩
      have hlt : J + 1 < s.size := ib_lt _ _ _ hJ
      refine ⟨J, hlt, hJ, ?_⟩
      by_cases h91 : s[0] = 91
      · right
        rw [hb, if_pos h91]
        have hj : Lib.indexByte (tl s 1) 93 = J := by
          rw [hl, ib_cons, h91, if_neg (by decide)] at hJ
          split at hJ <;> omega
        have hk := (blobIn_ix (tl s 1)).2 J hj
        have e1 : (s.extract 1 (J + 1)).data.toList = (tl s 1).take J := by rw [ext_listS]; rfl
        have e2 : s.data.toList.drop (J + 2) = (tl s 1).drop (J + 1) := by unfold tl; rw [List.drop_drop]; congr 1; omega
        rw [e1, e2]
        by_cases hp : 0 ≤ Lib.indexByte ((tl s 1).take J) 91
        · exact .inl ⟨h91, hp, hk.1 hp⟩
        · exact .inr ⟨h91, by omega, hk.2 (by omega)⟩
      · left
        exact ⟨h91, by rw [hb, if_neg h91]⟩
  · left
    have : s.data.toList = [] := List.eq_nil_of_length_eq_zero (by show s.size = 0; omega)
    rw [this]; exact ⟨by decide, rfl⟩
end Su
