/- Walks: the law of two scripts in a row. Walks: the law of two scripts in a row, walked. -/
import Derived.Test.YtgimgkjggaijoaaGreatDoorSvGO
namespace Sv
open Go Lx C1

/-- what Parse makes of a script -/
def PRes (s : ByteArray) (r : Except (Int × Int) (List CmdT)) : Prop := (∃ ts k, Run s.data.toList 0 ts (some k) ∧ r = .error (2, (k : Nat))) ∨ (∃ ts m, Run s.data.toList 0 ts none ∧ parseR (s.size : Nat) m (ts.map lexOf) = some r)
theorem pres_any (s : ByteArray) : ∃ r, PRes s r := by
  obtain ⟨ts, e, h⟩ := run_total s.data.toList.length s.data.toList 0 (Nat.le_refl _)
  cases e with
  | some k => exact ⟨_, .inl ⟨ts, k, h, rfl⟩⟩
  | none =>
    obtain ⟨r, hr⟩ := parse_end (s.size : Nat) (2 * (ts.map lexOf).length + 2) (ts.map lexOf) (Nat.le_refl _)
    exact ⟨r, .inr ⟨ts, _, h, hr⟩⟩
/-- a place in a text, and d further -/
def Sh (B d : Nat) (x y : Int) : Prop := 0 ≤ x ∧ x ≤ B ∧ y = x + d
theorem al_shift (B d : Nat) : ∀ (ts : List (Tok × Nat)), (∀ x ∈ ts, x.2 ≤ B) → Al (Sh B d) (ts.map lexOf) ((shiftT d ts).map lexOf)
  | [], _ => .nil
  | x :: r, h => .cons rfl rfl rfl ⟨by show (0 : Int) ≤ (x.2 : Nat); omega, by have := h x (by simp); show ((x.2 : Nat) : Int) ≤ B; omega, by show ((x.2 + d : Nat) : Int) = (x.2 : Int) + d; exact Int.natCast_add _ _⟩ (al_shift B d r fun y hy => h y (by simp [hy]))
theorem run_bad_le {l : List UInt8} {k j : Nat} {ts : List (Tok × Nat)} (h : Run l k ts (some j)) : j ≤ k + l.length := by
  obtain ⟨x, Y, h1, h2, -⟩ := h.places.2 j rfl
  rw [h1, List.length_append]; omega
theorem both_data (s t : ByteArray) : (s ++ ⟨#[10]⟩ ++ t : ByteArray).data.toList = s.data.toList ++ 10 :: t.data.toList := by
  rw [ByteArray.data_append, ByteArray.data_append]
  simp
theorem both_size (s t : ByteArray) : (s ++ ⟨#[10]⟩ ++ t : ByteArray).size = s.size + 1 + t.size := by
  rw [ByteArray.size_append, ByteArray.size_append]
  rfl
/-- how the second script's result comes back -/
def Shifted (B d : Nat) (a : List CmdT) : Except (Int × Int) (List CmdT) → Except (Int × Int) (List CmdT) → Prop
  | .error e, .error e' => e.1 = e'.1 ∧ Sh B d e.2 e'.2
  | .ok b, .ok c => ∃ b', c = a ++ b' ∧ CL (Sh B d) b b'
  | _, _ => False
theorem rows_plain (s t : ByteArray) (a : List CmdT) (rt : Except (Int × Int) (List CmdT)) (hs : PRes s (.ok a)) (ht : PRes t rt) :
    ∃ r, PRes (s ++ ⟨#[10]⟩ ++ t) r ∧ Shifted t.size (s.size + 1) a rt r ∧ ∃ ts e, Run (s ++ ⟨#[10]⟩ ++ t : ByteArray).data.toList 0 ts e ∧ ∀ b, rt = .ok b → e = none := by
  rcases hs with ⟨_, _, _, h⟩ | ⟨ts, m, h1, h2⟩
  · cases h
  have hlen : s.data.toList.length = s.size := Array.length_toList
  have hmore : ∀ ts' e, Run t.data.toList 0 ts' e → Run (s ++ ⟨#[10]⟩ ++ t : ByteArray).data.toList 0 (ts ++ shiftT (s.size + 1) ts') (e.map (· + (s.size + 1))) := by
    intro ts' e h
    rw [both_data]
    refine h1.more rfl _ _ _ ?_
    have := h.shift (s.size + 1)
    rw [hlen, Nat.zero_add]
    rwa [Nat.zero_add] at this
  rcases ht with ⟨ts', k, h3, rfl⟩ | ⟨ts', m', h3, h4⟩
  · have hk := run_bad_le h3
    have hlt : t.data.toList.length = t.size := Array.length_toList
    refine ⟨_, .inl ⟨_, _, hmore _ _ h3, rfl⟩, ⟨rfl, ⟨?_, ?_, ?_⟩⟩, _, _, hmore _ _ h3, fun b h => by cases h⟩
    · show (0 : Int) ≤ (k : Nat); omega
    · show ((k : Nat) : Int) ≤ (t.size : Nat); omega
    · show ((k + (s.size + 1) : Nat) : Int) = (k : Int) + ((s.size + 1 : Nat) : Int)
      exact Int.natCast_add _ _
  · have hle := h3.le
    have hlt : t.data.toList.length = t.size := Array.length_toList
    have hE : Sh t.size (s.size + 1) ((t.size : Nat) : Int) (((s ++ ⟨#[10]⟩ ++ t : ByteArray).size : Nat) : Int) := by
      rw [both_size]
      exact ⟨by omega, by omega, by push_cast; omega⟩
    obtain ⟨r', h5, h6⟩ := parse_al (P := Sh t.size (s.size + 1)) (E := ((t.size : Nat) : Int)) (E' := (((s ++ ⟨#[10]⟩ ++ t : ByteArray).size : Nat) : Int)) hE m' rt (al_shift t.size (s.size + 1) ts' fun x hx => by have := (hle x hx).2; omega) h4
    obtain ⟨M, h7⟩ := parse_app (E' := (((s ++ ⟨#[10]⟩ ++ t : ByteArray).size : Nat) : Int)) m _ _ a m' r' h2 h5
    refine ⟨_, .inr ⟨_, M, hmore _ _ h3, by rw [List.map_append]; exact h7⟩, ?_, _, _, hmore _ _ h3, fun _ _ => rfl⟩
    match rt, r', h6 with
    | .error e, .error e', h6 => exact h6
    | .ok b, .ok b', h6 => exact ⟨b', rfl, h6⟩
mutual
theorem TR_map {P Q : Int → Int → Prop} (h : ∀ x y, P x y → Q y x) : ∀ {t t' : TestT}, TR P t t' → TR Q t' t
  | _, _, .mk hk ha => .mk (TL_map h hk) (h _ _ ha)
theorem TL_map {P Q : Int → Int → Prop} (h : ∀ x y, P x y → Q y x) : ∀ {l l' : List TestT}, TL P l l' → TL Q l' l
  | _, _, .nil => .nil
  | _, _, .cons ht hl => .cons (TR_map h ht) (TL_map h hl)
end
mutual
theorem CR_map {P Q : Int → Int → Prop} (h : ∀ x y, P x y → Q y x) : ∀ {t t' : CmdT}, CR P t t' → CR Q t' t
  | _, _, .mk ht hb ha => .mk (TL_map h ht) (CL_map h hb) (h _ _ ha)
theorem CL_map {P Q : Int → Int → Prop} (h : ∀ x y, P x y → Q y x) : ∀ {l l' : List CmdT}, CL P l l' → CL Q l' l
  | _, _, .nil => .nil
  | _, _, .cons ht hl => .cons (CR_map h ht) (CL_map h hl)
end
mutual
theorem TR_refl {P : Int → Int → Prop} (h : ∀ x, P x x) : ∀ t : TestT, TR P t t
  | .mk _ _ ks a => .mk (TL_refl h ks) (h a)
theorem TL_refl {P : Int → Int → Prop} (h : ∀ x, P x x) : ∀ l : List TestT, TL P l l
  | [] => .nil
  | t :: r => .cons (TR_refl h t) (TL_refl h r)
end
mutual
theorem CR_refl {P : Int → Int → Prop} (h : ∀ x, P x x) : ∀ t : CmdT, CR P t t
  | .mk _ _ ts bl _ a => .mk (TL_refl h ts) (CL_refl h bl) (h a)
theorem CL_refl {P : Int → Int → Prop} (h : ∀ x, P x x) : ∀ l : List CmdT, CL P l l
  | [] => .nil
  | t :: r => .cons (CR_refl h t) (CL_refl h r)
end
/-- how much a parsed script bears -/
theorem pres_w {s : ByteArray} {a : List CmdT} (h : PRes s (.ok a)) : rightsC 0 a = true ∧ wCs a ≤ 3 * s.size := by
  rcases h with ⟨_, _, _, h⟩ | ⟨ts, m, h1, h2⟩
  · cases h
  · obtain ⟨k1, k2⟩ := parse_W m _ a h2 (lexW_of (run_tokW h1))
    have := run_w h1
    have hlen : s.data.toList.length = s.size := Array.length_toList
    exact ⟨k1, by omega⟩
theorem pres_err {s : ByteArray} {e : Int × Int} (h : PRes s (.error e)) : e.1 ≠ 0 ∧ True := by
  rcases h with ⟨_, _, _, h⟩ | ⟨ts, m, h1, h2⟩
  · injection h with h; rw [h]; exact ⟨by show (2 : Int) ≠ 0; decide, trivial⟩
  · refine ⟨?_, trivial⟩
    have : ∀ (m : Nat) (l : List Lex) e, parseR ((s.size : Nat) : Int) m l = some (.error e) → e.1 ≠ 0 := by
      intro m
      induction m with
      | zero => intro l e h; cases h
      | succ m ih =>
        intro l e h
        cases l with
        | nil => injection h with h; cases h
        | cons x q =>
          unfold parseR at h
          cases hc : cmdR ((s.size : Nat) : Int) m 0 (x :: q) with
          | none => rw [hc] at h; cases h
          | some u =>
            rw [hc] at h
            cases u with
            | error e' => injection h with h; injection h with h; rw [← h]; exact (Go.Proofs.YtgimgkjggaijoaaGreatDoor.cmd_err m).1 _ _ _ hc
            | ok p =>
              simp only at h
              cases hp : parseR ((s.size : Nat) : Int) m p.2 with
              | none => rw [hp] at h; cases h
              | some v =>
                rw [hp] at h
                injection h with h
                refine ih _ _ (hp.trans ?_)
                cases v with
                | error e' => injection h with h; rw [h]
                | ok v => cases h
    exact this m _ e h2
end Sv
namespace Go.Proofs.YtgimgkjggaijoaaGreatDoor
open Go.RowKit Pk Lx Sv

theorem script_any (s : ByteArray) (r : Except (Int × Int) (List CmdT)) (h : PRes s r) (hs : s.size ≤ 1000000) (w : World) (hw : LW w) : Calls Tryz.prog 9 #[.string s] w (ParsePost w r) := by
  rcases h with ⟨ts, k, h1, rfl⟩ | ⟨ts, m, h1, h2⟩
  · exact parse_bad s ts k h1 w hw (by omega)
  · refine parse_of s ts m r h1 ?_ h2 w hw (by omega)
    have := h1.count
    have hlen : s.data.toList.length = s.size := Array.length_toList
    omega
theorem wCs_app : ∀ (a b : List CmdT), wCs (a ++ b) = wCs a + wCs b
  | [], b => by show wCs b = 0 + wCs b; omega
  | x :: r, b => by have := wCs_app r b; show wC x + wCs (r ++ b) = wC x + wCs r + wCs b; omega
theorem cmds_len {w : World} {X : Nat → Prop} {p : Option Addr} {n c : Nat} {L : List CmdT} (h : CmdsAt w X (.slice p n c) L) : n = L.length ∧ n ≤ c ∧ (p = none → L = []) ∧ ∀ a, p = some a → L ≠ [] → a.spot = none := by
  obtain ⟨R, ⟨q, k, hq, h2, h3⟩, hl, -⟩ := h.out
  injection hq with e1 e2 e3
  subst e1
  refine ⟨by omega, by omega, fun hp => ?_, fun a ha hL => ?_⟩
  · rcases h3 with h3 | ⟨g, o, h4, -⟩
    · rw [h3] at hl; exact List.eq_nil_of_length_eq_zero hl.symm
    · rw [hp] at h4; cases h4
  · rcases h3 with h3 | ⟨g, o, h4, -⟩
    · rw [h3] at hl; exact absurd (List.eq_nil_of_length_eq_zero hl.symm) hL
    · rw [ha] at h4; injection h4 with h4; rw [h4]
theorem cmds_nil (w : World) (X : Nat → Prop) (p : Option Addr) (c : Nat) : CmdsAt w X (.slice p 0 c) [] := CmdsAt.of ⟨p, c, rfl, Nat.zero_le _, .inl rfl⟩ (Elems.nil _ _ _)
theorem reads_take {α : Type} {L : Lay α} {w : World} {X : Nat → Prop} {p : Option Addr} {n c : Nat} {m : List α} (h : ReadsR L w X (.slice p n c) m) (i : Nat) (hi : i ≤ m.length) : ReadsR L w X (.slice p i c) (m.take i) := by
  obtain ⟨p', c', he, h2, h3⟩ := h
  injection he with e1 e2 e3
  subst e1 e3
  have hl : (m.take i).length = i := by rw [List.length_take]; omega
  refine ⟨p, c, by rw [hl], by omega, ?_⟩
  rcases h3 with h3 | ⟨g, o, h4, h5, h6, h7⟩
  · left; rw [h3]; simp
  · refine .inr ⟨g, o, h4, h5, h6, fun j hj k u hu => ?_⟩
    rw [hl] at hj
    exact h7 j (by omega) k u (by rw [List.getElem_take] at hu; exact hu)
theorem reads_drop {α : Type} {L : Lay α} {w : World} {X : Nat → Prop} {p : Option Addr} {n c : Nat} {m : List α} (h : ReadsR L w X (.slice p n c) m) (i : Nat) (hi : i ≤ m.length) (p' : Option Addr) (c' : Nat) (hc : m.length - i ≤ c') (hp : ∀ g o, p = some ⟨g, o, none⟩ → i < m.length → p' = some ⟨g, o + i * L.k, none⟩) : ReadsR L w X (.slice p' (m.length - i) c') (m.drop i) := by
  obtain ⟨p1, c1, he, h2, h3⟩ := h
  injection he with e1 e2 e3
  subst e1 e3
  have hl : (m.drop i).length = m.length - i := List.length_drop
  refine ⟨p', c', by rw [hl], by omega, ?_⟩
  by_cases hn : i < m.length
  · rcases h3 with h3 | ⟨g, o, h4, h5, h6, h7⟩
    · rw [h3] at hn; cases hn
    · refine .inr ⟨g, o + i * L.k, hp g o h4 hn, h5, h6, fun j hj k u hu => ?_⟩
      rw [hl] at hj
      have := h7 (i + j) (by omega) k u (by rw [List.getElem_drop] at hu; exact hu)
      rw [show o + i * L.k + j * L.k + k = o + (i + j) * L.k + k by rw [Nat.add_mul]; omega]
      exact this
  · left; exact List.drop_eq_nil_of_le (by omega)
theorem cmds_take {w : World} {X : Nat → Prop} {p : Option Addr} {n c : Nat} {a b : List CmdT} (h : CmdsAt w X (.slice p n c) (a ++ b)) : CmdsAt w X (.slice p a.length c) a := by
  obtain ⟨R, hR, rl, re⟩ := h.out
  rw [List.length_append] at rl
  have h1 := reads_take hR a.length (by omega)
  refine CmdsAt.of h1 ⟨by rw [List.length_take]; omega, fun j h1 h2 => ?_⟩
  rw [List.length_take] at h1
  have := re j (by omega) (by rw [List.length_append]; omega)
  rw [List.getElem_append_left h2] at this
  rw [List.getElem_take]
  exact this
theorem cmds_drop {w : World} {X : Nat → Prop} {p : Option Addr} {n c : Nat} {a b : List CmdT} (h : CmdsAt w X (.slice p n c) (a ++ b)) (p' : Option Addr) (c' : Nat) (hc : b.length ≤ c') (hp : ∀ g o, p = some ⟨g, o, none⟩ → b ≠ [] → p' = some ⟨g, o + a.length * 6, none⟩) : CmdsAt w X (.slice p' b.length c') b := by
  obtain ⟨R, hR, rl, re⟩ := h.out
  rw [List.length_append] at rl
  have e1 : R.length - a.length = b.length := by omega
  have h1 := reads_drop hR a.length (by omega) p' c' (by omega) (fun g o he hn => hp g o he (by intro e; rw [e] at rl; simp at rl; omega))
  rw [e1] at h1
  refine CmdsAt.of h1 ⟨by rw [List.length_drop]; omega, fun j h1 h2 => ?_⟩
  rw [List.length_drop] at h1
  have := re (a.length + j) (by omega) (by rw [List.length_append]; omega)
  rw [List.getElem_append_right (by omega)] at this
  rw [List.getElem_drop]
  simpa using this
end Go.Proofs.YtgimgkjggaijoaaGreatDoor
namespace Go.Proofs.YtgimgkjggaijoaaGreatDoor
open Go.RowKit Pk Lx Sv

theorem drw_below {w w' : World} (h : Drw w w') : Below w.heap.size w w' := by
  obtain ⟨k, rfl⟩ := h
  exact below_drawS _ _
theorem size_ne {A : ByteArray} {n : Nat} (h : A.size ≤ n) (h2 : n < 9223372036854775807) : ¬ (9223372036854775807 < A.size) := by omega
theorem scan_some (s : ByteArray) (ts : List (Tok × Nat)) (eo : Option Nat) (h : Run s.data.toList 0 ts eo) (hs : s.size ≤ 5000000) : ∃ eo' : Int, (eo = none → eo' = 0) ∧ ∀ w1, LW w1 → Calls Tryz.prog 10 #[.string s] w1 fun e w' => Below w1.heap.size w1 w' ∧ ∃ p n c b, e = .returned (.tuple #[.slice p n c, .int .i64 eo', .int .i64 b]) := by
  cases eo with
  | none => exact ⟨0, fun _ => rfl, fun w1 hw => (scan_ok s ts h w1 hw hs).mono fun e w' ⟨p, c, h1, _, h3⟩ => ⟨h3, p, _, c, 0, h1⟩⟩
  | some k => exact ⟨2, (fun h => by cases h), fun w1 hw => (scan_bad s ts k h w1 hw hs).mono fun e w' ⟨h1, h3⟩ => ⟨h3, none, 0, 0, k, h1⟩⟩
set_option maxHeartbeats 8000000 in
set_option maxRecDepth 100000 in
theorem rows_any (s t : ByteArray) (w : World) (hw : LW w) (ht : TabN w) : Calls Tryz.prog 3 #[.string s, .string t] w (BlRet true w) := by
  have HSm := Lib.hid (small_any w hw ht)
  have HW := Lib.hid (fun w1 (hb : Below w.heap.size w w1) => hw.later hb)
  clear hw ht
  by_cases hs : 1500 < s.size
  · have k1 : decide ((1500 : Int) < (s.size : Int)) = true := decide_eq_true (by omega)
    clear hs
    have tb : Below w.heap.size w w := Below.refl _ _
    go_enter Tryz.func3, Tryz.ntmps3
    go_wp2_with fail
    refine HSm.out.mono ?_
    rintro e w1 ⟨rfl, hb1⟩
    replace tb := tb.trans (hb1.mono tb.size)
    go_wp2
    go_ret
    exact ⟨rfl, tb⟩
  · have k1 : decide ((1500 : Int) < (s.size : Int)) = false := decide_eq_false (by omega)
    by_cases ht : 1500 < t.size
    · have k2 : decide ((1500 : Int) < (t.size : Int)) = true := decide_eq_true (by omega)
      clear hs ht
      have tb : Below w.heap.size w w := Below.refl _ _
      go_enter Tryz.func3, Tryz.ntmps3
      go_wp2_with fail
      refine HSm.out.mono ?_
      rintro e w1 ⟨rfl, hb1⟩
      replace tb := tb.trans (hb1.mono tb.size)
      go_wp2
      go_ret
      exact ⟨rfl, tb⟩
    · have k2 : decide ((1500 : Int) < (t.size : Int)) = false := decide_eq_false (by omega)
      obtain ⟨rs, hrs⟩ := pres_any s
      obtain ⟨rt, hrt⟩ := pres_any t
      have hs1 : s.size ≤ 1500 := by omega
      have ht1 : t.size ≤ 1500 := by omega
      have HPs := Lib.hid (fun w1 (hb : Below w.heap.size w w1) => script_any s rs hrs (by omega) w1 (HW.out w1 hb))
      have HPt := Lib.hid (fun w1 (hb : Below w.heap.size w w1) => script_any t rt hrt (by omega) w1 (HW.out w1 hb))
      clear hs ht
      cases rs with
      | error e1 =>
        obtain ⟨e1, a1⟩ := e1
        have k3 : (e1 != 0) = true := bne_iff_ne.2 (pres_err hrs).1
        clear hrs hrt
        have tb : Below w.heap.size w w := Below.refl _ _
        go_enter Tryz.func3, Tryz.ntmps3
        go_wp2_with fail
        refine HSm.out.mono ?_
        rintro e w1 ⟨rfl, hb1⟩
        replace tb := tb.trans (hb1.mono tb.size)
        go_wp2_with fail
        refine (HPs.out w1 tb).mono ?_
        rintro e w2 ⟨hb2, -, rfl⟩
        replace tb := tb.trans (hb2.mono tb.size)
        go_wp2_with fail
        refine (HPt.out w2 tb).mono ?_
        rintro e w3 ⟨hb3, hr3⟩
        replace tb := tb.trans (hb3.mono tb.size)
        cases rt with
        | error e2 =>
          obtain ⟨e2, a2⟩ := e2
          obtain ⟨-, rfl⟩ := hr3
          go_wp2
          go_ret
          exact ⟨rfl, tb⟩
        | ok b =>
          obtain ⟨⟨p, n, c⟩, rfl, -⟩ := hr3
          dsimp only [SlV.val]
          go_wp2
          go_ret
          exact ⟨rfl, tb⟩
      | ok a =>
        obtain ⟨r, hrb, hsh, ts, eo, hrun, heo⟩ := rows_plain s t a rt hrs hrt
        have hbz := both_size s t
        have HPb := Lib.hid (fun w1 (hb : Below w.heap.size w w1) => script_any (s ++ ⟨#[10]⟩ ++ t) r hrb (by omega) w1 (HW.out w1 hb))
        have hsz : (s ++ ⟨#[10]⟩ : ByteArray).size = s.size + 1 := by rw [ByteArray.size_append]; rfl
        have hwa := (pres_w hrs).2
        cases rt with
        | error e2 =>
          obtain ⟨e2, a2⟩ := e2
          cases r with
          | ok cc => exact hsh.elim
          | error e3 =>
            obtain ⟨e3, a3⟩ := e3
            obtain ⟨h1, h2, h3, h4⟩ := hsh
            simp only at h1 h2 h3 h4
            subst h1
            have k3 : (e2 != 0) = true := bne_iff_ne.2 (pres_err hrt).1
            have k4 : a3 = a2 + (s.size : Int) + 1 := by rw [h4]; push_cast; omega
            have k5 : IntKind.i64.wrap (a2 + (s.size : Int)) = a2 + (s.size : Int) := w64 rfl (by omega) (by omega)
            have k6 : IntKind.i64.wrap (a2 + (s.size : Int) + 1) = a2 + (s.size : Int) + 1 := w64 rfl (by omega) (by omega)
            subst k4
            have hSc := scan_some (s ++ ⟨#[10]⟩ ++ t) ts eo hrun (by omega)
            obtain ⟨eo', -, hSc⟩ := hSc
            have HSc := Lib.hid (fun w1 (hb : Below w.heap.size w w1) => hSc w1 (HW.out w1 hb))
            clear hrs hrt hrb hrun heo h4 hwa hSc HW hbz
            have tb : Below w.heap.size w w := Below.refl _ _
            go_enter Tryz.func3, Tryz.ntmps3
            go_wp2_with fail
            refine HSm.out.mono ?_
            rintro e w1 ⟨rfl, hb1⟩
            replace tb := tb.trans (hb1.mono tb.size)
            go_wp2_with fail
            refine (HPs.out w1 tb).mono ?_
            rintro e w2 ⟨hb2, ⟨p, n, c⟩, rfl, -⟩
            replace tb := tb.trans (hb2.mono tb.size)
            dsimp only [SlV.val]
            go_wp2_with fail
            refine (HPt.out w2 tb).mono ?_
            rintro e w3 ⟨hb3, -, rfl⟩
            replace tb := tb.trans (hb3.mono tb.size)
            go_wp2_with fail
            refine (HPb.out w3 tb).mono ?_
            rintro e w4 ⟨hb4, -, rfl⟩
            replace tb := tb.trans (hb4.mono tb.size)
            go_wp2_with fail
            refine (HSc.out w4 tb).mono ?_
            rintro e w5 ⟨hb5, p5, n5, c5, b5, rfl⟩
            replace tb := tb.trans (hb5.mono tb.size)
            by_cases hz : eo' = 0
            · subst hz
              go_wp2
              go_ret
              exact ⟨rfl, tb⟩
            · have k7 : (eo' != 0) = true := bne_iff_ne.2 hz
              go_wp2
              go_ret
              exact ⟨rfl, tb⟩
        | ok b =>
          cases r with
          | error e3 => exact hsh.elim
          | ok cc =>
            obtain ⟨b', rfl, hcl⟩ := hsh
            obtain rfl := heo b rfl
            obtain ⟨eo', h0, hSc⟩ := scan_some (s ++ ⟨#[10]⟩ ++ t) ts none hrun (by omega)
            obtain rfl := h0 rfl
            have HSc := Lib.hid (fun w1 (hb : Below w.heap.size w w1) => hSc w1 (HW.out w1 hb))
            have hwb := (pres_w hrb).2
            rw [wCs_app] at hwb
            have hcl1 : CL (Pl true) a a := CL_refl (fun _ _ => rfl) a
            have hcl2 : CL (Pl false) b' b := CL_map (fun _ _ _ h => by cases h) hcl
            have hlen : b.length = b'.length := CL.len hcl
            clear hrs hrt hrb hrun heo hSc HW hcl h0
            have tb : Below w.heap.size w w := Below.refl _ _
            go_enter Tryz.func3, Tryz.ntmps3
            go_wp2_with fail
            refine HSm.out.mono ?_
            rintro e w1 ⟨rfl, hb1⟩
            replace tb := tb.trans (hb1.mono tb.size)
            go_wp2_with fail
            refine (HPs.out w1 tb).mono ?_
            rintro e w2 ⟨hb2, ⟨p, n, c⟩, rfl, hCa⟩
            replace tb := tb.trans (hb2.mono tb.size)
            dsimp only [SlV.val] at hCa ⊢
            go_wp2_with fail
            refine (HPt.out w2 tb).mono ?_
            rintro e w3 ⟨hb3, ⟨p3, n3, c3⟩, rfl, hCb⟩
            replace tb := tb.trans (hb3.mono tb.size)
            replace hCa := hCa.keeps (Y := Fresh w1 w2) (fun g _ hg => hb3.block g hg) hb3.size fun _ h => h
            dsimp only [SlV.val] at hCb ⊢
            go_wp2_with fail
            refine (HPb.out w3 tb).mono ?_
            rintro e w4 ⟨hb4, ⟨p4, n4, c4⟩, rfl, hCc⟩
            replace tb := tb.trans (hb4.mono tb.size)
            replace hCa := hCa.keeps (Y := Fresh w1 w2) (fun g _ hg => hb4.block g hg) hb4.size fun _ h => h
            replace hCb := hCb.keeps (Y := Fresh w2 w3) (fun g _ hg => hb4.block g hg) hb4.size fun _ h => h
            dsimp only [SlV.val] at hCc ⊢
            go_wp2_with fail
            refine (HSc.out w4 tb).mono ?_
            rintro e w5 ⟨hb5, p5, n5, c5, b5, rfl⟩
            replace tb := tb.trans (hb5.mono tb.size)
            replace hCa := hCa.keeps (Y := Fresh w1 w2) (fun g _ hg => hb5.block g hg) hb5.size fun _ h => h
            replace hCb := hCb.keeps (Y := Fresh w2 w3) (fun g _ hg => hb5.block g hg) hb5.size fun _ h => h
            replace hCc := hCc.keeps (Y := Fresh w3 w4) (fun g _ hg => hb5.block g hg) hb5.size fun _ h => h
            obtain ⟨l1, l2, -, -⟩ := cmds_len hCa
            obtain ⟨m1, m2, -, -⟩ := cmds_len hCb
            obtain ⟨o1, o2, o3, o4⟩ := cmds_len hCc
            rw [List.length_append] at o1
            have hS1 := Lib.hid (same_any true (wCs a + 1) _ _ _ _ a a w5 (cmds_take hCc) hCa hcl1 (by omega) (by omega))
            rw [← l1] at hS1
            have o5 : n4 = n + n3 := by omega
            subst o5
            have q1 : (((n + n3 : Nat) : Int) != (n : Int) + (n3 : Int)) = false := by push_cast; simp
            have hwr : IntKind.i64.wrap ((n : Int) + (n3 : Int)) = (n : Int) + (n3 : Int) := by have := wCs_len a; have := wCs_len b'; exact w64 rfl (by omega) (by omega)
            have hS2 := fun W (hW : Drw w5 W) p' c' (hc : b'.length ≤ c') (hp : ∀ g o, p4 = some ⟨g, o, none⟩ → b' ≠ [] → p' = some ⟨g, o + a.length * 6, none⟩) => same_any false (wCs b' + 1) (Fresh w3 w4) (Fresh w2 w3) (.slice p' b'.length c') (.slice p3 n3 c3) b' b W (by obtain ⟨k, rfl⟩ := hW; exact (cmds_drop hCc p' c' hc hp).keeps (fun _ _ _ => rfl) (Nat.le_refl _) fun _ h => h) (by obtain ⟨k, rfl⟩ := hW; exact hCb.keeps (fun _ _ _ => rfl) (Nat.le_refl _) fun _ h => h) hcl2 (by omega) (by omega)
            have m3 : b'.length = n3 := by omega
            rw [m3, ← l1] at hS2
            have z1 : (0 : Int) ≤ (n : Int) := by omega
            have z2 : (n : Int) ≤ ((n + n3 : Nat) : Int) := by omega
            have z3 : (n : Int) ≤ (c4 : Int) := by omega
            have HS2 := Lib.hid hS2
            have B0 := Lib.hid (show n3 = 0 → b' = [] from fun h => List.eq_nil_of_length_eq_zero (by omega))
            have o2 : n + n3 ≤ c4 := o2
            clear hS2 hCa hCb hCc hcl1 hcl2 hlen hwb hwa l1 m1 m3 o1 o3 o4
            by_cases hcap : c4 = n
            · have h30 : n3 = 0 := by omega
              have b0 := B0.out h30
              subst hcap h30
              clear o2
              simp only [Nat.add_zero] at *
              have q2 : ((c4 : Int) != (c4 : Int) + 0) = false := by simp
              have q3 : ((c4 : Int) != (c4 : Int) + ((0 : Nat) : Int)) = false := by simp
              have hwr2 : IntKind.i64.wrap (c4 : Int) = (c4 : Int) := by simpa using hwr
              have HS3 := Lib.hid (fun W hW => HS2.out W hW p4 0 (Nat.le_refl _) (fun g o _ h => absurd b0 h))
              clear HS2
              go_wp2_with fail
              refine hS1.out.mono ?_
              rintro e w6 ⟨rfl, hd6⟩
              go_wp2_with fail
              refine (HS3.out w6 hd6).mono ?_
              rintro e w7 ⟨rfl, hd7⟩
              go_wp2
              go_ret
              exact ⟨rfl, tb.trans ((drw_below (Drw.trans hd6 hd7)).mono tb.size)⟩
            · have z4 : ((n : Int) == (c4 : Int)) = false := beq_eq_false_iff_ne.2 (by omega)
              have HS3 := Lib.hid (fun W hW => HS2.out W hW (p4.map fun x => x.add (n * 6)) (c4 - n) (by omega) (fun g o he _ => by rw [he]; simp [Addr.add]))
              clear HS2
              go_wp2_with fail
              refine hS1.out.mono ?_
              rintro e w6 ⟨rfl, hd6⟩
              go_wp2_with fail
              refine (HS3.out w6 hd6).mono ?_
              rintro e w7 ⟨rfl, hd7⟩
              go_wp2
              go_ret
              exact ⟨rfl, tb.trans ((drw_below (Drw.trans hd6 hd7)).mono tb.size)⟩
end Go.Proofs.YtgimgkjggaijoaaGreatDoor
