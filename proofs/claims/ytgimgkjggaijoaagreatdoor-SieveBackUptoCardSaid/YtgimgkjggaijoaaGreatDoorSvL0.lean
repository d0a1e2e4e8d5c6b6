/- Plain and walks: what a script parses to; Parse by it. -/
import Derived.Test.YtgimgkjggaijoaaGreatDoorSvGO
namespace Sv
open Go Lx C1

/-- what Parse makes of a script -/
def PRes (s : ByteArray) (r : Except (Int × Int) (List CmdT)) : Prop := (∃ ts k, Run s.data.toList 0 ts (some k) ∧ r = .error (2, (k : Nat))) ∨ (∃ ts m, Run s.data.toList 0 ts none ∧ parseR (s.size : Nat) m (ts.map lexOf) = some r)
theorem pres_any (s : ByteArray) : ∃ r, PRes s r := by
  obtain ⟨ts, e, h⟩ := run_total s.data.toList.length s.data.toList 0 (Nat.le_refl _)
  cases e with
  | some k => exact ⟨_, .inl ⟨ts, k, h, rfl⟩⟩
  | none =>
    obtain ⟨r, hr⟩ := parse_end (s.size : Nat) (2 * (ts.map lexOf).length + 2) (ts.map lexOf) (Nat.le_refl _)
    exact ⟨r, .inr ⟨ts, _, h, hr⟩⟩
/-- a place in a text, and d further -/
def Sh (B d : Nat) (x y : Int) : Prop := 0 ≤ x ∧ x ≤ B ∧ y = x + d
theorem al_shift (B d : Nat) : ∀ (ts : List (Tok × Nat)), (∀ x ∈ ts, x.2 ≤ B) → Al (Sh B d) (ts.map lexOf) ((shiftT d ts).map lexOf)
  | [], _ => .nil
  | x :: r, h => .cons rfl rfl rfl ⟨by show (0 : Int) ≤ (x.2 : Nat); omega, by have := h x (by simp); show ((x.2 : Nat) : Int) ≤ B; omega, by show ((x.2 + d : Nat) : Int) = (x.2 : Int) + d; exact Int.natCast_add _ _⟩ (al_shift B d r fun y hy => h y (by simp [hy]))
theorem run_bad_le {l : List UInt8} {k j : Nat} {ts : List (Tok × Nat)} (h : Run l k ts (some j)) : j ≤ k + l.length := by
  obtain ⟨x, Y, h1, h2, -⟩ := h.places.2 j rfl
  rw [h1, List.length_append]; omega
theorem both_data (s t : ByteArray) : (s ++ ⟨#[10]⟩ ++ t : ByteArray).data.toList = s.data.toList ++ 10 :: t.data.toList := by
  rw [ByteArray.data_append, ByteArray.data_append]
  simp
theorem both_size (s t : ByteArray) : (s ++ ⟨#[10]⟩ ++ t : ByteArray).size = s.size + 1 + t.size := by
  rw [ByteArray.size_append, ByteArray.size_append]
  rfl
/-- how the second script's result comes back -/
def Shifted (B d : Nat) (a : List CmdT) : Except (Int × Int) (List CmdT) → Except (Int × Int) (List CmdT) → Prop
  | .error e, .error e' => e.1 = e'.1 ∧ Sh B d e.2 e'.2
  | .ok b, .ok c => ∃ b', c = a ++ b' ∧ CL (Sh B d) b b'
  | _, _ => False
theorem rows_plain (s t : ByteArray) (a : List CmdT) (rt : Except (Int × Int) (List CmdT)) (hs : PRes s (.ok a)) (ht : PRes t rt) :
    ∃ r, PRes (s ++ ⟨#[10]⟩ ++ t) r ∧ Shifted t.size (s.size + 1) a rt r ∧ ∃ ts e, Run (s ++ ⟨#[10]⟩ ++ t : ByteArray).data.toList 0 ts e ∧ ∀ b, rt = .ok b → e = none := by
  rcases hs with ⟨_, _, _, h⟩ | ⟨ts, m, h1, h2⟩
  · cases h
  have hlen : s.data.toList.length = s.size := Array.length_toList
  have hmore : ∀ ts' e, Run t.data.toList 0 ts' e → Run (s ++ ⟨#[10]⟩ ++ t : ByteArray).data.toList 0 (ts ++ shiftT (s.size + 1) ts') (e.map (· + (s.size + 1))) := by
    intro ts' e h
    rw [both_data]
    refine h1.more rfl _ _ _ ?_
    have := h.shift (s.size + 1)
    rw [hlen, Nat.zero_add]
    rwa [Nat.zero_add] at this
  rcases ht with ⟨ts', k, h3, rfl⟩ | ⟨ts', m', h3, h4⟩
  · have hk := run_bad_le h3
    have hlt : t.data.toList.length = t.size := Array.length_toList
    refine ⟨_, .inl ⟨_, _, hmore _ _ h3, rfl⟩, ⟨rfl, ⟨?_, ?_, ?_⟩⟩, _, _, hmore _ _ h3, fun b h => by cases h⟩
    · show (0 : Int) ≤ (k : Nat); omega
    · show ((k : Nat) : Int) ≤ (t.size : Nat); omega
    · show ((k + (s.size + 1) : Nat) : Int) = (k : Int) + ((s.size + 1 : Nat) : Int)
      exact Int.natCast_add _ _
  · have hle := h3.le
    have hlt : t.data.toList.length = t.size := Array.length_toList
    have hE : Sh t.size (s.size + 1) ((t.size : Nat) : Int) (((s ++ ⟨#[10]⟩ ++ t : ByteArray).size : Nat) : Int) := by
      rw [both_size]
      exact ⟨by omega, by omega, by push_cast; omega⟩
    obtain ⟨r', h5, h6⟩ := parse_al (P := Sh t.size (s.size + 1)) (E := ((t.size : Nat) : Int)) (E' := (((s ++ ⟨#[10]⟩ ++ t : ByteArray).size : Nat) : Int)) hE m' rt (al_shift t.size (s.size + 1) ts' fun x hx => by have := (hle x hx).2; omega) h4
    obtain ⟨M, h7⟩ := parse_app (E' := (((s ++ ⟨#[10]⟩ ++ t : ByteArray).size : Nat) : Int)) m _ _ a m' r' h2 h5
    refine ⟨_, .inr ⟨_, M, hmore _ _ h3, by rw [List.map_append]; exact h7⟩, ?_, _, _, hmore _ _ h3, fun _ _ => rfl⟩
    match rt, r', h6 with
    | .error e, .error e', h6 => exact h6
    | .ok b, .ok b', h6 => exact ⟨b', rfl, h6⟩
mutual
theorem TR_map {P Q : Int → Int → Prop} (h : ∀ x y, P x y → Q y x) : ∀ {t t' : TestT}, TR P t t' → TR Q t' t
  | _, _, .mk hk ha => .mk (TL_map h hk) (h _ _ ha)
theorem TL_map {P Q : Int → Int → Prop} (h : ∀ x y, P x y → Q y x) : ∀ {l l' : List TestT}, TL P l l' → TL Q l' l
  | _, _, .nil => .nil
  | _, _, .cons ht hl => .cons (TR_map h ht) (TL_map h hl)
end
mutual
theorem CR_map {P Q : Int → Int → Prop} (h : ∀ x y, P x y → Q y x) : ∀ {t t' : CmdT}, CR P t t' → CR Q t' t
  | _, _, .mk ht hb ha => .mk (TL_map h ht) (CL_map h hb) (h _ _ ha)
theorem CL_map {P Q : Int → Int → Prop} (h : ∀ x y, P x y → Q y x) : ∀ {l l' : List CmdT}, CL P l l' → CL Q l' l
  | _, _, .nil => .nil
  | _, _, .cons ht hl => .cons (CR_map h ht) (CL_map h hl)
end
mutual
theorem TR_refl {P : Int → Int → Prop} (h : ∀ x, P x x) : ∀ t : TestT, TR P t t
  | .mk _ _ ks a => .mk (TL_refl h ks) (h a)
theorem TL_refl {P : Int → Int → Prop} (h : ∀ x, P x x) : ∀ l : List TestT, TL P l l
  | [] => .nil
  | t :: r => .cons (TR_refl h t) (TL_refl h r)
end
mutual
theorem CR_refl {P : Int → Int → Prop} (h : ∀ x, P x x) : ∀ t : CmdT, CR P t t
  | .mk _ _ ts bl _ a => .mk (TL_refl h ts) (CL_refl h bl) (h a)
theorem CL_refl {P : Int → Int → Prop} (h : ∀ x, P x x) : ∀ l : List CmdT, CL P l l
  | [] => .nil
  | t :: r => .cons (CR_refl h t) (CL_refl h r)
end
/-- how much a parsed script bears -/
theorem pres_w {s : ByteArray} {a : List CmdT} (h : PRes s (.ok a)) : rightsC 0 a = true ∧ wCs a ≤ 3 * s.size := by
  rcases h with ⟨_, _, _, h⟩ | ⟨ts, m, h1, h2⟩
  · cases h
  · obtain ⟨k1, k2⟩ := parse_W m _ a h2 (lexW_of (run_tokW h1))
    have := run_w h1
    have hlen : s.data.toList.length = s.size := Array.length_toList
    exact ⟨k1, by omega⟩
theorem pres_err {s : ByteArray} {e : Int × Int} (h : PRes s (.error e)) : e.1 ≠ 0 ∧ True := by
  rcases h with ⟨_, _, _, h⟩ | ⟨ts, m, h1, h2⟩
  · injection h with h; rw [h]; exact ⟨by show (2 : Int) ≠ 0; decide, trivial⟩
  · refine ⟨?_, trivial⟩
    have : ∀ (m : Nat) (l : List Lex) e, parseR ((s.size : Nat) : Int) m l = some (.error e) → e.1 ≠ 0 := by
      intro m
      induction m with
      | zero => intro l e h; cases h
      | succ m ih =>
        intro l e h
        cases l with
        | nil => injection h with h; cases h
        | cons x q =>
          unfold parseR at h
          cases hc : cmdR ((s.size : Nat) : Int) m 0 (x :: q) with
          | none => rw [hc] at h; cases h
          | some u =>
            rw [hc] at h
            cases u with
            | error e' => injection h with h; injection h with h; rw [← h]; exact (Go.Proofs.YtgimgkjggaijoaaGreatDoor.cmd_err m).1 _ _ _ hc
            | ok p =>
              simp only at h
              cases hp : parseR ((s.size : Nat) : Int) m p.2 with
              | none => rw [hp] at h; cases h
              | some v =>
                rw [hp] at h
                injection h with h
                refine ih _ _ (hp.trans ?_)
                cases v with
                | error e' => injection h with h; rw [h]
                | ok v => cases h
    exact this m _ e h2
end Sv
namespace Go.Proofs.YtgimgkjggaijoaaGreatDoor
open Go.RowKit Pk Lx Sv

theorem script_any (s : ByteArray) (r : Except (Int × Int) (List CmdT)) (h : PRes s r) (hs : s.size ≤ 4000000) (w : World) (hw : LW w) : Calls Tryz.prog 9 #[.string s] w (ParsePost w r) := by
  rcases h with ⟨ts, k, h1, rfl⟩ | ⟨ts, m, h1, h2⟩
  · exact parse_bad s ts k h1 w hw (by omega)
  · refine parse_of s ts m r h1 ?_ h2 w hw (by omega)
    have := h1.count
    have hlen : s.data.toList.length = s.size := Array.length_toList
    omega
theorem drw_below {w w' : World} (h : Drw w w') : Below w.heap.size w w' := by
  obtain ⟨k, rfl⟩ := h
  exact below_drawS _ _
end Go.Proofs.YtgimgkjggaijoaaGreatDoor
