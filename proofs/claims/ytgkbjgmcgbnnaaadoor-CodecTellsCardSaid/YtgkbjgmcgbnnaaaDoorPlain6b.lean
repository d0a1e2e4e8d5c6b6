/- Plain law: decoding undoes quoted-printable. -/
import Derived.Test.YtgkbjgmcgbnnaaaDoorPlain6
namespace C6
open Go Pk Hx

/-- the line so far encodes o -/
def Tok (seg o : List UInt8) : Prop := ∀ X, escR (seg ++ X) = o ++ escR X
/-- its last character is none that a line's end takes away -/
def Lst (seg : List UInt8) : Prop := ∀ c, seg.getLast? = some c → c ≠ 32 ∧ c ≠ 9 ∧ c ≠ 61
theorem tok_nil : Tok [] [] := fun _ => rfl
theorem tok_app {a b x y : List UInt8} (h : Tok a x) (k : Tok b y) : Tok (a ++ b) (x ++ y) := fun X => by
  rw [List.append_assoc, h, k]; simp
theorem tok_esc {seg o : List UInt8} (h : Tok seg o) : escR seg = o := by
  have := h []
  simpa [escR] using this
theorem trim_id {l : List UInt8} (h : ∀ c, l.getLast? = some c → c ≠ 32 ∧ c ≠ 9) : Lib.trimRightS l [32, 9] = l := by
  unfold Lib.trimRightS
  cases hr : l.reverse with
  | nil => simp at hr; subst hr; rfl
  | cons c r =>
    have hc : l.getLast? = some c := by rw [← List.head?_reverse, hr]; rfl
    obtain ⟨h1, h2⟩ := h c hc
    rw [List.dropWhile_cons_of_neg (by simp [h1, h2]), ← hr, List.reverse_reverse]
theorem ends1_no {c : UInt8} {l : List UInt8} (h : ∀ d, l.getLast? = some d → d ≠ c) : ends1 c l = false := by
  unfold ends1
  rw [beq_eq_false_iff_ne]
  intro e
  exact h c e rfl
theorem uncut_ok {seg o e : List UInt8} (h : Tok seg o) (hl : Lst seg) : uncut seg e = o ++ e := by
  unfold uncut
  rw [trim_id (fun c hc => ⟨(hl c hc).1, (hl c hc).2.1⟩), ends1_no (fun d hd => (hl d hd).2.2), tok_esc h]; rfl
theorem unline_hard {seg o : List UInt8} (h : Tok seg o) (hl : Lst seg) : unline (seg ++ [13]) true = o ++ [13, 10] := by
  unfold unline
  have e : ends1 13 (seg ++ [13]) = true := by unfold ends1; simp
  rw [if_pos rfl, if_pos e, List.dropLast_concat, uncut_ok h hl]
theorem unline_soft {seg o : List UInt8} (h : Tok seg o) : unline (seg ++ [61, 13]) true = o := by
  unfold unline
  have e : ends1 13 (seg ++ [61, 13]) = true := by unfold ends1; simp
  have e2 : seg ++ [61, 13] = (seg ++ [61]) ++ [13] := by simp
  rw [if_pos rfl, if_pos e, e2, List.dropLast_concat]
  unfold uncut
  rw [trim_id (by intro c hc; simp at hc; subst hc; decide)]
  have e3 : ends1 61 (seg ++ [61]) = true := by unfold ends1; simp
  rw [if_pos e3, List.dropLast_concat, tok_esc h]
theorem unline_last {seg o : List UInt8} (h : Tok seg o) (hl : Lst seg) : unline seg false = o := by
  unfold unline
  rw [if_neg Bool.false_ne_true, uncut_ok h hl, List.append_nil]
theorem unq_app : ∀ (p seg X : List UInt8), (∀ c ∈ p, c ≠ 10) → unq seg (p ++ X) = unq (seg ++ p) X
  | [], seg, X, _ => by simp
  | c :: r, seg, X, h => by
    rw [List.cons_append, unq, if_neg (h c (by simp)), unq_app r _ X (fun d hd => h d (by simp [hd]))]; simp
theorem unq_break (seg X : List UInt8) : unq seg (13 :: 10 :: X) = unline (seg ++ [13]) true ++ unq [] X := by
  rw [unq, if_neg (by decide), unq, if_pos rfl]
theorem unq_soft {seg o : List UInt8} (h : Tok seg o) (X : List UInt8) : unq seg (61 :: 13 :: 10 :: X) = o ++ unq [] X := by
  rw [unq, if_neg (by decide), unq, if_neg (by decide), unq, if_pos rfl]
  have : seg ++ [61] ++ [13] = seg ++ [61, 13] := by simp
  rw [this, unline_soft h]
/-- one token -/
theorem qpc_tok (c : UInt8) (last : Bool) : Tok (qpc c last) [c] := by
  intro X
  unfold qpc
  split
  · exact escR_esc c X
  · rename_i h
    by_cases h61 : c = 61
    · subst h61
      exact absurd ⟨.inr (.inr (by decide)), .inl (by decide)⟩ h
    · exact escR_cons h61 X
theorem escC_mem (c : UInt8) : ∀ d ∈ escC c, d ≠ 10 := by
  have hc := c.toNat_lt
  intro d hd
  unfold escC at hd
  simp only [List.mem_cons, List.not_mem_nil, or_false] at hd
  rcases hd with rfl | rfl | rfl
  · decide
  · exact (unhex_hex' (by omega) (by omega)).2.2.1
  · exact (unhex_hex' (by omega) (by omega)).2.2.1
theorem qpc_mem (c : UInt8) (last : Bool) : ∀ d ∈ qpc c last, d ≠ 10 := by
  unfold qpc
  split
  · exact escC_mem c
  · rename_i h
    intro d hd
    rw [List.mem_singleton] at hd
    subst hd
    rintro rfl
    exact h ⟨.inl (by decide), .inl (by decide)⟩
theorem qpc_ne (c : UInt8) (last : Bool) : qpc c last ≠ [] := by unfold qpc; split <;> simp [escC]
theorem qpc_lst (c : UInt8) (seg : List UInt8) : Lst (seg ++ qpc c true) := by
  have hc := c.toNat_lt
  intro d hd
  unfold qpc at hd
  split at hd
  · have e : seg ++ escC c = (seg ++ [61, hexC ((c.toNat : Int) / 16)]) ++ [hexC ((c.toNat : Int) % 16)] := by simp [escC]
    rw [e, List.getLast?_concat] at hd
    have hd' := Option.some.inj hd
    obtain ⟨_, _, _, a, b, d', _⟩ := unhex_hex' (n := (c.toNat : Int) % 16) (by omega) (by omega)
    rw [← hd']; exact ⟨a, b, d'⟩
  · rename_i h
    rw [List.getLast?_concat] at hd
    have hd' := Option.some.inj hd
    subst hd'
    refine ⟨?_, ?_, ?_⟩ <;> (rintro rfl; exact h (by decide))
theorem lst_nil : Lst [] := fun c hc => by simp at hc

theorem unq_qp (n : Int) (l : List UInt8) : ∀ seg o, Tok seg o → (l = [] ∨ endsL l = true → Lst seg) → unq seg (qpR n l) = o ++ l := by
  fun_induction qpR n l with
  | case1 n =>
    intro seg o h hl
    rw [unq, unline_last h (hl (.inl rfl)), List.append_nil]
  | case2 n c hgt =>
    intro seg o h _
    rw [unq_soft h]
    have := unq_app (qpc c true) [] [] (qpc_mem c true)
    rw [List.append_nil] at this
    rw [this, List.nil_append, unq, unline_last (qpc_tok c true) (by simpa using qpc_lst c [])]
  | case3 n c hgt =>
    intro seg o h _
    have := unq_app (qpc c true) seg [] (qpc_mem c true)
    rw [List.append_nil] at this
    rw [this, unq, unline_last (tok_app h (qpc_tok c true)) (qpc_lst c seg)]
  | case4 n c d r he ih =>
    intro seg o h hl
    have hcd : c = 13 ∧ d = 10 := by simpa [endsL] using he
    obtain ⟨rfl, rfl⟩ := hcd
    rw [unq_break, unline_hard h (hl (.inr he)), ih [] [] tok_nil (fun _ => lst_nil)]
    simp
  | case5 n c d r he hgt ih =>
    intro seg o h hl
    rw [unq_soft h, unq_app _ [] _ (qpc_mem c _), List.nil_append, ih _ [c] (qpc_tok c _)]
    · rfl
    · intro hx
      rcases hx with hx | hx
      · cases hx
      · rw [hx]; simpa using qpc_lst c []
  | case6 n c d r he hgt ih =>
    intro seg o h hl
    rw [unq_app _ seg _ (qpc_mem c _), ih _ (o ++ [c]) (tok_app h (qpc_tok c _))]
    · simp
    · intro hx
      rcases hx with hx | hx
      · cases hx
      · rw [hx]; exact qpc_lst c seg
theorem unQp_qp (l : List UInt8) : unQpR (qpR 0 l) = l := by
  unfold unQpR
  rw [unq_qp 0 l [] [] tok_nil (fun _ => lst_nil)]; rfl
theorem qpc_length (c : UInt8) (last : Bool) : (qpc c last).length ≤ 3 := by unfold qpc; split <;> simp [escC]
theorem qpR_length (n : Int) (l : List UInt8) : (qpR n l).length ≤ 6 * l.length := by
  fun_induction qpR n l with
  | case1 n => simp
  | case2 n c _ => have := qpc_length c true; simp; omega
  | case3 n c _ => have := qpc_length c true; simp; omega
  | case4 n c d r _ ih => simp at *; omega
  | case5 n c d r _ _ ih => have := qpc_length c (endsL (d :: r)); simp at *; omega
  | case6 n c d r _ _ ih => have := qpc_length c (endsL (d :: r)); simp at *; omega
end C6
