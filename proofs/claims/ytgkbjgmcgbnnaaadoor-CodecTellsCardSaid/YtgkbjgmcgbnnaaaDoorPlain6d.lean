/- Plain laws: text without escapes and blanks stands as it stood. -/
import Derived.Test.YtgkbjgmcgbnnaaaDoorPlain6b
namespace C6
open Go Pk Hx

def Cln (l : List UInt8) : Prop := ∀ c ∈ l, c ≠ 61 ∧ c ≠ 32 ∧ c ≠ 9
theorem escR_cln : ∀ l : List UInt8, Cln l → escR l = l
  | [], _ => rfl
  | c :: r, h => by rw [escR_cons (h c (by simp)).1, escR_cln r (fun d hd => h d (by simp [hd]))]
theorem mem_last {l : List UInt8} {c : UInt8} (h : l.getLast? = some c) : c ∈ l := List.mem_of_getLast? h
theorem uncut_cln {a e : List UInt8} (h : Cln a) : uncut a e = a ++ e := by
  unfold uncut
  rw [trim_id (fun c hc => ⟨(h c (mem_last hc)).2.1, (h c (mem_last hc)).2.2⟩), ends1_no (fun d hd => (h d (mem_last hd)).1), escR_cln a h]; rfl
theorem unline_cln_t {a : List UInt8} (h : Cln a) : unline a true = a ++ [10] := by
  unfold unline
  rw [if_pos rfl]
  split
  · rename_i he
    unfold ends1 at he
    rw [beq_iff_eq, List.getLast?_eq_some_iff] at he
    obtain ⟨t, rfl⟩ := he
    rw [List.dropLast_concat, uncut_cln (fun c hc => h c (by simp [hc]))]; simp
  · exact uncut_cln h
theorem unline_cln_f {a : List UInt8} (h : Cln a) : unline a false = a := by
  unfold unline
  rw [if_neg Bool.false_ne_true, uncut_cln h, List.append_nil]
theorem unq_cln : ∀ (l seg : List UInt8), Cln l → Cln seg → unq seg l = seg ++ l
  | [], seg, _, hs => by rw [unq, unline_cln_f hs, List.append_nil]
  | c :: r, seg, hl, hs => by
    have hr : Cln r := fun d hd => hl d (by simp [hd])
    rw [unq]
    split
    · rename_i h; subst h
      rw [unline_cln_t hs, unq_cln r [] hr (fun c hc => by cases hc)]; simp
    · rw [unq_cln r (seg ++ [c]) hr]
      · simp
      · intro d hd
        rcases List.mem_append.1 hd with h | h
        · exact hs d h
        · rw [List.mem_singleton] at h; subst h; exact hl d (by simp)
theorem unQp_cln {l : List UInt8} (h : Cln l) : unQpR l = l := by
  unfold unQpR
  rw [unq_cln l [] h (fun c hc => by cases hc)]; rfl
theorem unq_split : ∀ (l seg t : List UInt8), unq seg (l ++ 10 :: t) = unq seg (l ++ [10]) ++ unq [] t
  | [], seg, t => by
    have e : unq [] [] = [] := by decide
    rw [List.nil_append, unq, if_pos rfl, List.nil_append, unq, if_pos rfl, e, List.append_nil]
  | c :: r, seg, t => by
    rw [List.cons_append, unq, List.cons_append, unq]
    split
    · rw [unq_split r [] t, List.append_assoc]
    · exact unq_split r _ t
theorem unQp_after {p : List UInt8} (h : Cln p) (t : List UInt8) : unQpR (p ++ [120, 10] ++ t) = p ++ [120, 10] ++ unQpR t := by
  unfold unQpR
  have e : p ++ [120, 10] ++ t = (p ++ [120]) ++ 10 :: t := by simp
  rw [e, unq_split]
  have e2 : p ++ [120] ++ [10] = p ++ [120, 10] := by simp
  have hc : Cln (p ++ [120, 10]) := by
    intro c hc
    rcases List.mem_append.1 hc with h' | h'
    · exact h c h'
    · simp only [List.mem_cons, List.not_mem_nil, or_false] at h'
      rcases h' with rfl | rfl <;> decide
  rw [e2, unq_cln _ [] hc (fun c hc => by cases hc)]; rfl
theorem unQp_ahead {p : List UInt8} (h : Cln p) (t : List UInt8) : unQpR (t ++ [120, 10] ++ p) = unQpR (t ++ [120, 10]) ++ p := by
  unfold unQpR
  have e : t ++ [120, 10] ++ p = (t ++ [120]) ++ 10 :: p := by simp
  have e2 : t ++ [120] ++ [10] = t ++ [120, 10] := by simp
  rw [e, unq_split, e2, unq_cln p [] h (fun c hc => by cases hc)]; rfl
def cln : List UInt8 → List UInt8
  | [] => []
  | c :: r => if c ≠ 61 ∧ c ≠ 32 ∧ c ≠ 9 then c :: cln r else cln r
theorem cln_Cln (l : List UInt8) : Cln (cln l) := by
  induction l with
  | nil => intro c hc; cases hc
  | cons a r ih =>
    rw [cln]
    split
    · rename_i h
      intro c hc
      rcases List.mem_cons.1 hc with rfl | h'
      · exact h
      · exact ih c h'
    · exact ih
theorem cln_length (l : List UInt8) : (cln l).length ≤ l.length := by
  induction l with
  | nil => simp [cln]
  | cons a r ih => rw [cln]; split <;> simp <;> omega
theorem escR_le (l : List UInt8) : (unQpR l).length ≤ 2 * l.length + 2 := by
  have key : ∀ (l seg : List UInt8), (unq seg l).length ≤ 2 * l.length + seg.length := by
    intro l
    have hu : ∀ (a e : List UInt8), (uncut a e).length ≤ a.length + e.length := by
      intro a e
      unfold uncut
      have h1 := escR_length (Lib.trimRightS a [32, 9])
      have h2 := escR_length (Lib.trimRightS a [32, 9]).dropLast
      have h3 : (Lib.trimRightS a [32, 9]).length ≤ a.length := by
        unfold Lib.trimRightS
        rw [List.length_reverse]
        exact Nat.le_trans (List.dropWhile_sublist _).length_le (by simp)
      have h4 : (Lib.trimRightS a [32, 9]).dropLast.length ≤ (Lib.trimRightS a [32, 9]).length := by simp
      split
      · omega
      · rw [List.length_append]; omega
    have hul : ∀ (a : List UInt8), (unline a true).length ≤ a.length + 2 ∧ (unline a false).length ≤ a.length := by
      intro a
      unfold unline
      refine ⟨?_, ?_⟩
      · rw [if_pos rfl]
        split
        · have := hu a.dropLast [13, 10]; simp at this ⊢; omega
        · have := hu a [10]; simp at this ⊢; omega
      · rw [if_neg Bool.false_ne_true]; have := hu a []; simpa using this
    induction l with
    | nil => intro seg; rw [unq]; have := (hul seg).2; simp; omega
    | cons c r ih =>
      intro seg
      rw [unq]
      split
      · have h1 := (hul seg).1; have h2 := ih []; simp at h2 ⊢; omega
      · have h2 := ih (seg ++ [c]); simp at h2 ⊢; omega
  have := key l []
  unfold unQpR; simp at this; omega
end C6
