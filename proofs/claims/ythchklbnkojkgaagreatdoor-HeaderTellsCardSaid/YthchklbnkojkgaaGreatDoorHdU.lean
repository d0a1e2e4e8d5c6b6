/- Plain: header fields: Put, and what Parse makes of it. -/
import Derived.Test.YthchklbnkojkgaaGreatDoorHdL
namespace Hd
open Go Go.RowKit Pk

/-- no end of a line in it -/
def noNl (l : List UInt8) : Prop := ∀ c ∈ l, c ≠ 10 ∧ c ≠ 13
theorem noNl_app {a b : List UInt8} (h : noNl a) (g : noNl b) : noNl (a ++ b) := fun c hc => by
  rcases List.mem_append.1 hc with h1 | h1
  · exact h c h1
  · exact g c h1
theorem noNl_sub {a b : List UInt8} (h : noNl b) (hs : ∀ c ∈ a, c ∈ b) : noNl a := fun c hc => h c (hs c hc)
theorem no_line : ∀ (x t : List UInt8), (∀ c ∈ x, c ≠ 10) → lineN (x ++ t) = x.length + lineN t
  | [], t, _ => by simp
  | c :: r, t, h => by
    rw [List.cons_append, lineN_cons (h c (List.mem_cons_self ..)), no_line r t (fun d hd => h d (List.mem_cons_of_mem _ hd)), List.length_cons]; omega
theorem line_end (x : List UInt8) (h : ∀ c ∈ x, c ≠ 10) : lineN (x ++ [10]) = x.length + 1 := by rw [no_line x [10] h]; rfl
theorem line_crlf (x t : List UInt8) (h : noNl x) : lineN (x ++ ([13, 10] ++ t)) = x.length + 2 := by
  rw [no_line x _ (fun c hc => (h c hc).1)]; rfl
theorem ends_crlf (x : List UInt8) : ends (x ++ [13, 10]) := ends_app (by rfl)
theorem bare_crlf (x : List UInt8) : bareL (x ++ [13, 10]) = x := by
  unfold bareL
  have h1 : (x ++ [13, 10]).getLast? = some 10 := ends_crlf x
  rw [if_pos h1]
  have h2 : (x ++ [13, 10] : List UInt8).dropLast = x ++ [13] := by
    rw [show x ++ [13, 10] = (x ++ [13]) ++ [10] by simp, List.dropLast_concat]
  rw [h2]
  unfold chop
  rw [if_pos (by rw [List.getLast?_append]; rfl), List.dropLast_concat]
/-- text, folded -/
inductive Fold : List UInt8 → Prop
  | one (x : List UInt8) (h : noNl x) : Fold x
  | more (x b : List UInt8) (h : noNl x) (g : goesB b = true) (f : Fold b) : Fold (x ++ ([13, 10] ++ b))
theorem fold_cont {b : List UInt8} (f : Fold b) (g : goesB b = true) : cont (b ++ [13, 10]) = (b ++ [13, 10]).length := by
  induction f with
  | one x h =>
    have hne := goes_ne g
    rw [cont_step (by rw [goes_app hne]; exact g)]
    have hl := line_crlf x [] h
    rw [List.append_nil] at hl
    have hd : (x ++ [13, 10] : List UInt8).drop (lineN (x ++ [13, 10])) = [] := by
      rw [hl, List.drop_eq_nil_of_le]; rw [List.length_append]; exact Nat.le_refl _
    rw [hd, hl, List.length_append]; rfl
  | more x b h g2 f ih =>
    have hne := goes_ne g
    rw [cont_step (by rw [goes_app hne]; exact g)]
    have hl : lineN (x ++ ([13, 10] ++ b) ++ [13, 10]) = x.length + 2 := by
      rw [List.append_assoc, List.append_assoc]; exact line_crlf x _ h
    have hd : (x ++ ([13, 10] ++ b) ++ [13, 10]).drop (x.length + 2) = b ++ [13, 10] := by
      rw [show x ++ ([13, 10] ++ b) ++ [13, 10] = (x ++ [13, 10]) ++ (b ++ [13, 10]) by simp]
      have := drop_app_len (x ++ [13, 10]) (b ++ [13, 10])
      rw [List.length_append] at this
      exact this
    rw [hl, hd, ih g2]
    simp only [List.length_append, List.length_cons, List.length_nil]; omega
/-- text in front, folded on -/
theorem fold_head (pre : List UInt8) (hp : noNl pre) (hne : pre ≠ []) {b : List UInt8} (f : Fold b) : headN (pre ++ b ++ [13, 10]) = (pre ++ b ++ [13, 10]).length ∧
    ∃ x r, noNl x ∧ pre ++ b ++ [13, 10] = pre ++ x ++ ([13, 10] ++ r) ∧ lineN (pre ++ b ++ [13, 10]) = (pre ++ x).length + 2 := by
  cases f with
  | one _ h =>
    have hl : lineN (pre ++ b ++ [13, 10]) = (pre ++ b).length + 2 := by
      have := line_crlf (pre ++ b) [] (noNl_app hp h); rwa [List.append_nil] at this
    refine ⟨?_, b, [], h, by simp, hl⟩
    have hd : (pre ++ b ++ [13, 10] : List UInt8).drop ((pre ++ b).length + 2) = [] := by
      rw [List.drop_eq_nil_of_le]; rw [List.length_append]; exact Nat.le_refl _
    unfold headN
    rw [hl, hd]
    simp only [List.length_append, List.length_cons, List.length_nil]; rfl
  | more x b h g2 f =>
    have hl : lineN (pre ++ (x ++ ([13, 10] ++ b)) ++ [13, 10]) = (pre ++ x).length + 2 := by
      rw [show pre ++ (x ++ ([13, 10] ++ b)) ++ [13, 10] = (pre ++ x) ++ ([13, 10] ++ (b ++ [13, 10])) by simp]
      exact line_crlf _ _ (noNl_app hp h)
    have hd : (pre ++ (x ++ ([13, 10] ++ b)) ++ [13, 10]).drop ((pre ++ x).length + 2) = b ++ [13, 10] := by
      rw [show pre ++ (x ++ ([13, 10] ++ b)) ++ [13, 10] = (pre ++ x ++ [13, 10]) ++ (b ++ [13, 10]) by simp]
      have := drop_app_len (pre ++ x ++ [13, 10]) (b ++ [13, 10])
      rw [List.length_append] at this
      exact this
    refine ⟨?_, x, b ++ [13, 10], h, by simp, hl⟩
    unfold headN
    rw [hl, hd, fold_cont f g2]
    simp only [List.length_append, List.length_cons, List.length_nil]; omega
/-! the name -/
theorem okc_blk {c : UInt8} (h : okc c = true) : blk c = false ∧ c ≠ 10 ∧ c ≠ 13 ∧ c ≠ 58 := by
  have key : ∀ n : Nat, n < 256 → (okc (UInt8.ofNat n) = true → blk (UInt8.ofNat n) = false ∧ UInt8.ofNat n ≠ 10 ∧ UInt8.ofNat n ≠ 13 ∧ UInt8.ofNat n ≠ 58) := by decide +kernel
  have := key c.toNat c.toNat_lt
  rw [UInt8.ofNat_toNat] at this
  exact this h
structure Named (name : List UInt8) : Prop where
  ne : name ≠ []
  ok : ∀ c ∈ name, okc c = true
theorem right_named {name : List UInt8} : rightB name = true ↔ Named name := by
  unfold rightB
  rw [Bool.and_eq_true, List.all_eq_true]
  constructor
  · rintro ⟨h1, h2⟩; exact ⟨by simpa using h1, h2⟩
  · rintro ⟨h1, h2⟩; exact ⟨by simpa using h1, h2⟩
theorem Named.no {name : List UInt8} (h : Named name) : noNl name := fun c hc => ⟨(okc_blk (h.ok c hc)).2.1, (okc_blk (h.ok c hc)).2.2.1⟩
theorem trimR_id {l : List UInt8} (h : l.getLast?.map blk ≠ some true) : trimR l = l := by
  unfold trimR Lib.trimRightS
  have : l.reverse.dropWhile ([32, 9].contains ·) = l.reverse := by
    cases hr : l.reverse with
    | nil => rfl
    | cons a r =>
      rw [List.dropWhile_cons, if_neg]
      intro hb
      apply h
      rw [← List.head?_reverse, hr]
      show some (blk a) = some true
      rw [show blk a = true from hb]
  rw [this, List.reverse_reverse]
theorem Named.trim {name : List UInt8} (h : Named name) : trimR name = name := by
  apply trimR_id
  intro e
  rw [Option.map_eq_some_iff] at e
  obtain ⟨a, h1, h2⟩ := e
  have := (okc_blk (h.ok a (List.mem_of_getLast? h1))).1
  rw [this] at h2; cases h2
theorem tw_name : ∀ (name t : List UInt8), (∀ c ∈ name, okc c = true) → (name ++ 58 :: t).takeWhile (fun c => !(c == 58)) = name
  | [], _, _ => rfl
  | c :: r, t, h => by
    have h1 := (okc_blk (h c (List.mem_cons_self ..))).2.2.2
    rw [List.cons_append, List.takeWhile_cons, if_pos (by simp [h1]), tw_name r t (fun d hd => h d (List.mem_cons_of_mem _ hd))]
/-- a field whose first line begins with a name and a colon -/
theorem field_named {name x r h : List UInt8} (hn : Named name) (hh : h = name ++ 58 :: x ++ ([13, 10] ++ r)) (hl : lineN h = (name ++ 58 :: x).length + 2) : emptyB h = false ∧ fieldL h = ⟨toB name, toB (bareL (h.drop (name.length + 1))), toB h, false⟩ := by
  have ht : h.take (lineN h) = name ++ 58 :: x ++ [13, 10] := by
    rw [hl, hh, show name ++ 58 :: x ++ ([13, 10] ++ r) = (name ++ 58 :: x ++ [13, 10]) ++ r by simp]
    have := take_app_len (name ++ 58 :: x ++ [13, 10]) r
    rw [List.length_append] at this
    exact this
  have hb : bareL (h.take (lineN h)) = name ++ 58 :: x := by rw [ht]; exact bare_crlf _
  have h1 : nameL h = name := by unfold nameL; rw [hb]; exact tw_name name x hn.ok
  have h2 : colonB h = true := by unfold colonB; rw [hb]; simp
  refine ⟨by unfold emptyB; rw [hb]; simp, ?_⟩
  unfold fieldL
  rw [h1, h2, hn.trim, (right_named.2 hn), if_pos (by rfl)]
/-! Put -/
def piecesF : Nat → List UInt8 → List (List UInt8)
  | 0, _ => []
  | f + 1, v => if v.isEmpty = true then [] else v.take (pieceN v) :: piecesF f (v.drop (pieceN v))
def piecesL (v : List UInt8) : List (List UInt8) := piecesF v.length v
theorem pieceF_le : ∀ (c : UInt8) (r : List UInt8), pieceF c r ≤ r.length
  | _, [] => Nat.le_refl _
  | c, d :: r => by
    unfold pieceF
    rw [List.length_cons]
    split
    · omega
    · have := pieceF_le d r; omega
theorem pieceN_rng {v : List UInt8} (h : v ≠ []) : 1 ≤ pieceN v ∧ pieceN v ≤ v.length := by
  cases v with
  | nil => exact absurd rfl h
  | cons c r =>
    have h2 := pieceF_le c r
    have e : pieceN (c :: r) = pieceF c r + 1 := rfl
    rw [e, List.length_cons]; omega
theorem pieceF_goes : ∀ (c : UInt8) (r : List UInt8), r.drop (pieceF c r) ≠ [] → goesB (r.drop (pieceF c r)) = true
  | _, [], h => absurd rfl h
  | c, d :: r, h => by
    by_cases hb : (blk d && !blk c) = true
    · have e : pieceF c (d :: r) = 0 := by unfold pieceF; rw [if_pos hb]
      rw [e, List.drop_zero]
      rw [Bool.and_eq_true] at hb
      exact hb.1
    · have e : pieceF c (d :: r) = pieceF d r + 1 := by conv => lhs; unfold pieceF
                                                        rw [if_neg hb]
      rw [e, List.drop_succ_cons] at h ⊢
      exact pieceF_goes d r h
theorem piece_goes {v : List UInt8} (h : v.drop (pieceN v) ≠ []) : goesB (v.drop (pieceN v)) = true := by
  cases v with
  | nil => exact absurd rfl h
  | cons c r =>
    unfold pieceN at h ⊢
    rw [List.drop_succ_cons] at h ⊢
    exact pieceF_goes c r h
theorem putF_nil (f n : Nat) (b : Bool) : putF f n b [] = [] := by cases f <;> rfl
theorem putF_ne {f n : Nat} {b : Bool} {v : List UInt8} (h : v ≠ []) : putF (f + 1) n b v = if b = false ∧ 78 < n + pieceN v then [13, 10] ++ v.take (pieceN v) ++ putF f (pieceN v) false (v.drop (pieceN v)) else v.take (pieceN v) ++ putF f (n + pieceN v) false (v.drop (pieceN v)) := by
  conv => lhs; unfold putF
  rw [if_neg (by simp [h])]
  cases b <;> simp
theorem goes_take {v : List UInt8} (h : v ≠ []) : goesB (v.take (pieceN v)) = goesB v := by
  have := (pieceN_rng h).1
  cases v with
  | nil => rfl
  | cons c r => rfl
/-- what Put lays is folded text, and reads as what was given -/
theorem putF_fold : ∀ (f n : Nat) (b : Bool) (v x : List UInt8), v.length ≤ f → noNl v → noNl x → (b = false → v ≠ [] → goesB v = true) → Fold (x ++ putF f n b v)
  | f, n, b, v, x, hf, hv, hx, hg => by
    by_cases hne : v = []
    · subst hne; rw [putF_nil, List.append_nil]; exact .one x hx
    · obtain ⟨p1, p2⟩ := pieceN_rng hne
      cases f with
      | zero => exact absurd (List.eq_nil_of_length_eq_zero (by omega)) hne
      | succ f =>
        have ht : noNl (v.take (pieceN v)) := noNl_sub hv (fun c hc => List.mem_of_mem_take hc)
        have hd : noNl (v.drop (pieceN v)) := noNl_sub hv (fun c hc => List.mem_of_mem_drop hc)
        have hl : (v.drop (pieceN v)).length ≤ f := by rw [List.length_drop]; omega
        rw [putF_ne hne]
        split
        · rename_i hc
          rw [List.append_assoc]
          have hgt : goesB (v.take (pieceN v) ++ putF f (pieceN v) false (v.drop (pieceN v))) = true := by
            rw [goes_app (fun e => by have := congrArg List.length e; rw [List.length_take, List.length_nil] at this; omega), goes_take hne]
            exact hg hc.1 hne
          exact .more x _ hx hgt (putF_fold f _ false _ _ hl hd ht (fun _ => piece_goes))
        · rw [← List.append_assoc]
          exact putF_fold f _ false _ _ hl hd (noNl_app hx ht) (fun _ => piece_goes)
theorem unfold_cons {c : UInt8} (h : c ≠ 10) (h2 : c ≠ 13) (r : List UInt8) : unfoldL (c :: r) = c :: unfoldL r := by
  cases r with
  | nil =>
    have e : unfoldL [c] = if c = 10 then [] else [c] := rfl
    rw [e, if_neg h]; rfl
  | cons d r => conv => lhs; unfold unfoldL
                rw [if_neg h, if_neg (fun e => h2 e.1)]
theorem unfold_no : ∀ (x t : List UInt8), noNl x → unfoldL (x ++ t) = x ++ unfoldL t
  | [], _, _ => rfl
  | c :: r, t, h => by
    obtain ⟨h1, h2⟩ := h c (List.mem_cons_self ..)
    rw [List.cons_append, unfold_cons h1 h2, unfold_no r t (fun d hd => h d (List.mem_cons_of_mem _ hd)), List.cons_append]
theorem unfold_lf (t : List UInt8) : unfoldL (10 :: t) = unfoldL t := by
  cases t with
  | nil => rfl
  | cons d r => conv => lhs; unfold unfoldL
                rw [if_pos rfl]
theorem unfold_crlf (t : List UInt8) : unfoldL (13 :: 10 :: t) = unfoldL t := by
  have : unfoldL (13 :: 10 :: t) = unfoldL (10 :: t) := by
    conv => lhs; unfold unfoldL
    rw [if_neg (by decide), if_pos ⟨rfl, rfl⟩]
  rw [this, unfold_lf]
theorem putF_unfold : ∀ (f n : Nat) (b : Bool) (v : List UInt8), v.length ≤ f → noNl v → unfoldL (putF f n b v) = v
  | f, n, b, v, hf, hv => by
    by_cases hne : v = []
    · subst hne; rw [putF_nil]; rfl
    · obtain ⟨p1, p2⟩ := pieceN_rng hne
      cases f with
      | zero => exact absurd (List.eq_nil_of_length_eq_zero (by omega)) hne
      | succ f =>
        have ht : noNl (v.take (pieceN v)) := noNl_sub hv (fun c hc => List.mem_of_mem_take hc)
        have hd : noNl (v.drop (pieceN v)) := noNl_sub hv (fun c hc => List.mem_of_mem_drop hc)
        have hl : (v.drop (pieceN v)).length ≤ f := by rw [List.length_drop]; omega
        rw [putF_ne hne]
        split
        · rw [List.append_assoc, List.cons_append, List.cons_append, List.nil_append, unfold_crlf, unfold_no _ _ ht, putF_unfold f _ _ _ hl hd, List.take_append_drop]
        · rw [unfold_no _ _ ht, putF_unfold f _ _ _ hl hd, List.take_append_drop]
/-! the clean value -/
theorem spc_no (c : UInt8) : spc c ≠ 10 ∧ spc c ≠ 13 := by
  unfold spc
  split
  · exact ⟨by decide, by decide⟩
  · rename_i h; exact ⟨fun e => h (.inr e), fun e => h (.inl e)⟩
theorem mem_dropWhile {p : UInt8 → Bool} : ∀ {l : List UInt8} {c : UInt8}, c ∈ l.dropWhile p → c ∈ l
  | a :: r, c, h => by
    rw [List.dropWhile_cons] at h
    split at h
    · exact List.mem_cons_of_mem _ (mem_dropWhile h)
    · exact h
theorem trim_mem {l : List UInt8} {c : UInt8} (h : c ∈ trimB l) : c ∈ l := by
  unfold trimB Lib.trimS Lib.trimLeftS Lib.trimRightS at h
  have := List.mem_reverse.1 (mem_dropWhile h)
  exact List.mem_reverse.1 (mem_dropWhile this)
theorem clean_no (s : List UInt8) : noNl (cleanL s) := fun c hc => by
  unfold cleanL at hc
  obtain ⟨d, _, rfl⟩ := List.mem_map.1 (trim_mem hc)
  exact spc_no d
theorem put_shape {name : List UInt8} (value : List UInt8) (h : Named name) : ∃ b, putL name value = name ++ [58, 32] ++ b ++ [13, 10] ∧ Fold b ∧ unfoldL b = cleanL value := by
  refine ⟨putF (cleanL value).length (name.length + 2) true (cleanL value), ?_, ?_, putF_unfold _ _ _ _ (Nat.le_refl _) (clean_no value)⟩
  · unfold putL; rw [if_pos (right_named.2 h)]
  · have := putF_fold (cleanL value).length (name.length + 2) true (cleanL value) [] (Nat.le_refl _) (clean_no value) (fun c hc => by cases hc) (fun e => by cases e)
    exact this
theorem put_head {name : List UInt8} (value : List UInt8) (h : Named name) : Head (putL name value) ∧ ends (putL name value) ∧ ∃ b, Fold b ∧ unfoldL b = cleanL value ∧ putL name value = name ++ [58, 32] ++ b ++ [13, 10] ∧ fieldL (putL name value) = ⟨toB name, toB (32 :: b), toB (putL name value), false⟩ := by
  obtain ⟨b, e, f, hu⟩ := put_shape value h
  have hno : noNl (name ++ [58, 32]) := noNl_app h.no (fun c hc => by
    simp only [List.mem_cons, List.not_mem_nil, or_false] at hc
    rcases hc with rfl | rfl <;> exact ⟨by decide, by decide⟩)
  obtain ⟨h1, x, r, hx, h2, h3⟩ := fold_head (name ++ [58, 32]) hno (by simp) f
  have e2 : name ++ [58, 32] ++ b ++ [13, 10] = name ++ 58 :: (32 :: x) ++ ([13, 10] ++ r) := by rw [h2]; simp
  obtain ⟨g1, g2⟩ := field_named (x := 32 :: x) (r := r) h e2 (by rw [h3]; simp)
  rw [← e] at h1 h2 g1 g2
  refine ⟨⟨by rw [e]; simp, h1, g1⟩, by rw [e]; exact ends_crlf _, b, f, hu, e, ?_⟩
  rw [g2]
  have : (putL name value).drop (name.length + 1) = (32 :: b) ++ [13, 10] := by
    rw [e, show name ++ [58, 32] ++ b ++ [13, 10] = (name ++ [58]) ++ ((32 :: b) ++ [13, 10]) by simp]
    have := drop_app_len (name ++ [58]) ((32 :: b) ++ [13, 10])
    rw [List.length_append] at this
    exact this
  rw [this, bare_crlf]
theorem put_bad {name : List UInt8} (value : List UInt8) (h : ¬ Named name) : putL name value = [] := by
  unfold putL; rw [if_neg (fun e => h (right_named.1 e))]
/-! what the field's value reads as -/
def allB (l : List UInt8) : Prop := ∀ c ∈ l, blk c = true
def solid (l : List UInt8) : Prop := l.head?.map blk ≠ some true ∧ l.getLast?.map blk ≠ some true
theorem dw_head (p : UInt8 → Bool) : ∀ l : List UInt8, (l.dropWhile p).head?.map p ≠ some true
  | [] => by simp
  | c :: r => by
    rw [List.dropWhile_cons]
    split
    · exact dw_head p r
    · rename_i h; simpa using h
theorem tw_all (p : UInt8 → Bool) : ∀ l : List UInt8, ∀ c ∈ l.takeWhile p, p c = true
  | [], c, h => by cases h
  | a :: r, c, h => by
    rw [List.takeWhile_cons] at h
    split at h
    · rename_i ha
      rcases List.mem_cons.1 h with rfl | h
      · exact ha
      · exact tw_all p r c h
    · cases h
theorem dw_all (p : UInt8 → Bool) : ∀ (a l : List UInt8), (∀ c ∈ a, p c = true) → (a ++ l).dropWhile p = l.dropWhile p
  | [], _, _ => rfl
  | c :: r, l, h => by rw [List.cons_append, List.dropWhile_cons, if_pos (h c (List.mem_cons_self ..)), dw_all p r l (fun d hd => h d (List.mem_cons_of_mem _ hd))]
theorem dw_id (p : UInt8 → Bool) {l : List UInt8} (h : l.head?.map p ≠ some true) : l.dropWhile p = l := by
  cases l with
  | nil => rfl
  | cons c r => rw [List.dropWhile_cons, if_neg]; intro e; apply h; simpa using e
theorem trim_eq (l : List UInt8) : trimB l = ((l.reverse.dropWhile blk).reverse).dropWhile blk := rfl
theorem trim_mid {a T b : List UInt8} (ha : allB a) (hb : allB b) (hT : solid T) : trimB (a ++ T ++ b) = T := by
  rw [trim_eq, List.reverse_append, List.reverse_append]
  rw [dw_all blk b.reverse _ (fun c hc => hb c (List.mem_reverse.1 hc))]
  by_cases h0 : T = []
  · subst h0
    rw [List.reverse_nil, List.nil_append]
    have : a.reverse.dropWhile blk = [] := by
      have := dw_all blk a.reverse [] (fun c hc => ha c (List.mem_reverse.1 hc))
      rw [List.append_nil] at this; rw [this]; rfl
    rw [this]; rfl
  · have h1 : (T.reverse ++ a.reverse).dropWhile blk = T.reverse ++ a.reverse := by
      apply dw_id
      intro e
      apply hT.2
      have : (T.reverse ++ a.reverse).head? = T.getLast? := by
        rw [List.head?_append, List.head?_reverse]
        cases hq : T.getLast? with
        | none => exact absurd (List.getLast?_eq_none_iff.1 hq) h0
        | some x => rfl
      rw [this] at e; exact e
    rw [h1, List.reverse_append, List.reverse_reverse, List.reverse_reverse, dw_all blk a T ha, dw_id blk hT.1]
theorem trim_split (l : List UInt8) : ∃ a b, l = a ++ trimB l ++ b ∧ allB a ∧ allB b ∧ solid (trimB l) := by
  have h1 : l.reverse.takeWhile blk ++ l.reverse.dropWhile blk = l.reverse := List.takeWhile_append_dropWhile
  have h2 : l = (l.reverse.dropWhile blk).reverse ++ (l.reverse.takeWhile blk).reverse := by
    rw [← List.reverse_append, h1, List.reverse_reverse]
  have h3 : ((l.reverse.dropWhile blk).reverse).takeWhile blk ++ ((l.reverse.dropWhile blk).reverse).dropWhile blk = (l.reverse.dropWhile blk).reverse := List.takeWhile_append_dropWhile
  refine ⟨((l.reverse.dropWhile blk).reverse).takeWhile blk, (l.reverse.takeWhile blk).reverse, ?_, tw_all blk _, fun c hc => tw_all blk _ c (List.mem_reverse.1 hc), ?_, ?_⟩
  · rw [trim_eq, h3]; exact h2
  · rw [trim_eq]; exact dw_head blk _
  · rw [trim_eq]
    have h4 := dw_head blk l.reverse
    rw [List.head?_eq_getElem?] at h4
    generalize hM : l.reverse.dropWhile blk = M at h3 h4 ⊢
    intro e
    rw [Option.map_eq_some_iff] at e
    obtain ⟨c, e1, e2⟩ := e
    have : (M.reverse).getLast? = some c := by
      rw [← h3, List.getLast?_append, e1]; rfl
    rw [List.getLast?_reverse, List.head?_eq_getElem?] at this
    apply h4
    rw [this]; exact congrArg some e2
theorem solid_nil : solid [] := ⟨by simp, by simp⟩
theorem trim_solid (l : List UInt8) : solid (trimB l) := by obtain ⟨_, _, _, _, _, h⟩ := trim_split l; exact h
theorem trim_idem (l : List UInt8) : trimB (32 :: trimB l) = trimB l := by
  have := trim_mid (a := [32]) (b := []) (fun c hc => by simp only [List.mem_cons, List.not_mem_nil, or_false] at hc; subst hc; rfl) (fun c hc => by cases hc) (trim_solid l)
  rw [List.append_nil] at this
  exact this
theorem put_value {name b : List UInt8} (value : List UInt8) (hu : unfoldL b = cleanL value) : valueOf ⟨toB name, toB (32 :: b), toB (putL name value), false⟩ = cleanL value := by
  unfold valueOf
  rw [toB_data, unfold_cons (by decide) (by decide), hu]
  exact trim_idem _
end Hd
