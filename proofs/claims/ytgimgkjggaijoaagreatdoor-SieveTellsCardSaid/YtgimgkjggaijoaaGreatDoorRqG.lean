/- Walks: the reference's Parse of filter scripts. -/
import Derived.Test.YtgimgkjggaijoaaGreatDoorRq
import Derived.Test.YtgimgkjggaijoaaGreatDoorRsM
import Derived.Test.YtgimgkjggaijoaaGreatDoorSvL0
namespace Go.Proofs.YtgimgkjggaijoaaGreatDoor
open Go.RowKit Pk Lx Sv

theorem scanQ_ok (s : ByteArray) (ts : List (Tok × Nat)) (h : Run s.data.toList 0 ts none) (w : World) (hs : s.size ≤ 5000000) :
    Calls Tryz.prog 23 #[.string s] w fun e w' => ∃ p c, e = .returned (.tuple #[.slice p ts.length c, .int .i64 0, .int .i64 0]) ∧ seesG lexLay w' w'.heap.size 41 (.slice p ts.length c) (ts.map lexOf) ∧ Below w.heap.size w w' := by
  refine (scanQ_any s w hs).mono ?_
  rintro e w' ⟨ts', h1 | ⟨k, h1, -⟩, hb⟩
  · obtain ⟨v, hr, rfl, hown⟩ := h1
    obtain ⟨rfl, -⟩ := hr.det h
    have hS := hown.sees (Nat.le_refl _)
    obtain ⟨p, c, rfl, -⟩ := hS.form
    rw [List.length_map] at hS ⊢
    exact ⟨p, c, rfl, hS, hb⟩
  · have := (h1.det h).2
    cases this
theorem scanQ_bad (s : ByteArray) (ts : List (Tok × Nat)) (k : Nat) (h : Run s.data.toList 0 ts (some k)) (w : World) (hs : s.size ≤ 5000000) :
    Calls Tryz.prog 23 #[.string s] w fun e w' => e = .returned (.tuple #[.slice none 0 0, .int .i64 2, .int .i64 k]) ∧ Below w.heap.size w w' := by
  refine (scanQ_any s w hs).mono ?_
  rintro e w' ⟨ts', h1 | ⟨k', h1, rfl⟩, hb⟩
  · obtain ⟨v, hr, -⟩ := h1
    have := (hr.det h).2
    cases this
  · have := (h1.det h).2
    injection this with this
    subst this
    exact ⟨rfl, hb⟩
theorem parseQ_bad (s : ByteArray) (ts : List (Tok × Nat)) (k : Nat) (h : Run s.data.toList 0 ts (some k)) (w : World) (hs : s.size ≤ 5000000) :
    Calls Tryz.prog 13 #[.string s] w (ParsePost w (.error (2, k))) := by
  have HS := Lib.hid (scanQ_bad s ts k h w hs)
  clear h
  go_enter Tryz.func13, Tryz.ntmps13
  go_wp2_with fail
  refine HS.out.mono ?_
  rintro e w1 ⟨rfl, hb1⟩
  go_wp2_with fail
  go_ret3
  exact ⟨hb1, by decide, rfl⟩
/-- where the scripts' commands are gathered -/
def PqNext (W : World) (rb : Nat) (E : Int) (res : Except (Int × Int) (List CmdT)) (v : Value) (wr : World) : Prop :=
  ∃ (l : List Lex) (R : List RCmd) (acc : List CmdT), LsAt cmdL 46 CmdAt W rb wr v R acc ∧ RowQ wr rb l E 0 0 ∧ l.length + R.length ≤ 1000000 ∧ ∃ m r, parseR E m l = some r ∧ r.map (fun p => acc ++ p) = res
set_option maxHeartbeats 8000000 in
set_option maxRecDepth 100000 in
theorem parseQ_of (s : ByteArray) (ts : List (Tok × Nat)) (m : Nat) (res : Except (Int × Int) (List CmdT)) (h : Run s.data.toList 0 ts none) (hl : ts.length ≤ 1000000) (hp : parseR (s.size : Nat) m (ts.map lexOf) = some res) (w : World) (hs : s.size ≤ 5000000) :
    Calls Tryz.prog 13 #[.string s] w (ParsePost w res) := by
  have HS := Lib.hid (scanQ_ok s ts h w hs)
  have HP := Lib.hid (show ∃ m r, parseR (s.size : Nat) m (ts.map lexOf) = some r ∧ r.map (fun p => [] ++ p) = res from ⟨m, res, hp, by cases res <;> rfl⟩)
  clear h hp
  go_enter Tryz.func13, Tryz.ntmps13
  go_wp2_with fail
  refine HS.out.mono ?_
  rintro e w1 ⟨p, c, rfl, hse, hb1⟩
  have hrd : ReadsR lexLay w1 (· < w1.heap.size) (.slice p ts.length c) (ts.map lexOf) := by
    obtain ⟨p', c', he, h2, h3⟩ := hse.form
    rw [List.length_map] at he
    injection he with e1 e2 e3
    subst e1; subst e3
    refine ⟨p, c, by rw [List.length_map], h2, ?_⟩
    rcases h3 with h3 | ⟨g, rfl, h4, h5⟩
    · exact .inl h3
    · exact .inr ⟨g, 0, rfl, h4, h4, fun j hj i u hu => by rw [Nat.zero_add]; exact h5 j hj i u hu⟩
  have hbA := (Below.refl w1.heap.size w1).alloc (Nat.le_refl _) (.cells #[.slice p ts.length c, .int .i64 (0 : Nat), .int .i64 s.size, .int .i64 0, .int .i64 0] 63)
  have hR0 : RowQ (w1.alloc (.cells #[.slice p ts.length c, .int .i64 (0 : Nat), .int .i64 s.size, .int .i64 0, .int .i64 0] 63)) w1.heap.size (ts.map lexOf) (s.size : Nat) 0 0 :=
    ⟨_, 0, ts.map lexOf, heap_alloc_new w1 _, rfl, Nat.zero_le _, by rw [List.length_map]; exact hl, hrd.keeps (fun g _ hg => hbA.block g hg) hbA.size fun _ h => h⟩
  have hbW := hb1.trans (hbA.mono hb1.size)
  have HSz := Lib.hid hb1.size
  go_wp2_with fail
  have h0 : PqNext (w1.alloc (.cells #[.slice p ts.length c, .int .i64 (0 : Nat), .int .i64 s.size, .int .i64 0, .int .i64 0] 63)) w1.heap.size (s.size : Nat) res (.slice none 0 0) (w1.alloc (.cells #[.slice p ts.length c, .int .i64 (0 : Nat), .int .i64 s.size, .int .i64 0, .int .i64 0] 63)) :=
    ⟨ts.map lexOf, [], [], ⟨ownsG.nil _ _ _ _, Elems.nil _ _ _, below_grown (Below.refl _ _) _⟩, hR0, by rw [List.length_map]; simpa using hl, HP.out⟩
  have HRB := Lib.hid hR0.lt
  clear hrd hse hR0 hbA HS hb1 HP
  generalize w1.alloc (.cells #[.slice p ts.length c, .int .i64 (0 : Nat), .int .i64 s.size, .int .i64 0, .int .i64 0] 63) = W at *
  generalize hrbe : w1.heap.size = rb at *
  clear hrbe
  go_loopw [9] (fun v wr => PqNext W rb (s.size : Nat) res v wr) (fun _ wr => mq wr rb)
  case atStart => exact h0
  case round =>
    clear h0
    have hrb := HRB.out
    obtain ⟨l', R, acc, hA, hR, hlen, m', r', hpr, hres⟩ := hrel
    have hfin : ∀ w9, wr.grownBy w9 (some rb) → Below w.heap.size w w9 := fun w9 hg => below_fresh hbW (grown_trans hA.grown hg) HSz.out
    have HFin := Lib.hid hfin
    have hmq := mq_eq hR
    have hR2 := hR
    obtain ⟨v0, K, L, h1, hl0, hK, hL, pL, cL, rfl, -⟩ := hR2
    obtain ⟨k0, k1, -, -, -⟩ := h1.cells
    cases l' with
    | nil =>
      have hKL : L.length ≤ K := by
        have := congrArg List.length hl0
        rw [List.length_drop] at this
        simp at this
        omega
      have q1 : decide ((K : Int) < (L.length : Int)) = false := decide_eq_false (by omega)
      have q2 : decide (K < L.length) = false := decide_eq_false (by omega)
      obtain rfl := pa_end hpr hres
      obtain ⟨pv, nv, cv, rfl⟩ := own_slice hA.own
      clear hl0 hpr hres hKL h1 hK hL hfin
      go_wp2_with fail
      go_quiet (fail)
      go_wp2_with fail
      go_ret3
      obtain ⟨d1, d2⟩ := hA.done cmdAt_keeps
      have hz := hbW.size
      exact ⟨HFin.out _ (below_grown (below_drawS _ _) _), ⟨pv, nv, cv⟩, rfl, (CmdsAt.of d1 d2).keeps (fun _ _ _ => rfl) (Nat.le_refl _) fun g hg => ⟨Nat.le_trans hz hg.1, hg.2⟩⟩
    | cons x q =>
      have hKL : K < L.length := by
        have := congrArg List.length hl0
        rw [List.length_drop] at this
        simp at this
        omega
      have q1 : decide ((K : Int) < (L.length : Int)) = true := decide_eq_true (by omega)
      have q2 : decide (K < L.length) = true := decide_eq_true (by omega)
      obtain ⟨m2, rc, hc, hok, herr⟩ := pa_next hpr hres
      rw [List.length_cons] at hlen hmq
      have HC := Lib.hid (fun n => cmdQC_any m2 rb (x :: q) (s.size : Nat) 0 rc (wr.drewN n) (hR.below (below_drawS wr n)) (by rw [List.length_cons]; omega) (by omega) hc)
      have HOv := Lib.hid (hA.past hrb)
      clear hl0 hpr hres hKL h1 hK hL hfin
      go_wp2_with fail
      go_quiet (fail)
      go_wp2_with fail
      refine (HC.out _).mono ?_
      rintro e w2 ⟨hg2, ⟨rn, ⟨pa, na, ca⟩, ⟨pt, nt, ct⟩, ⟨pb, nb, cb⟩, rbr, ra⟩, hpost⟩
      dsimp only [SlV.val] at hpost
      have hg12 := grown_trans (below_grown (below_drawS wr nq) (some rb)) hg2
      have hal := (Below.refl w2.heap.size w2).alloc (Nat.le_refl _) (.cells #[.string rn, .slice pa na ca, .slice pt nt ct, .slice pb nb cb, .bool rbr, .int .i64 ra] 46)
      cases rc with
      | error e =>
        obtain ⟨e1, a1⟩ := e
        obtain ⟨rfl, q5, hr5⟩ := hpost
        obtain ⟨hne, rfl⟩ := herr _ rfl
        obtain ⟨v5, K5, L5, h5, -, -, -, -⟩ := hr5.below hal
        obtain ⟨-, -, -, k3, k4⟩ := h5.cells
        have hne := Lib.hid hne
        have hG := Lib.hid (grown_trans hg12 (below_grown hal (some rb)))
        clear hr5 h5 hok herr hal hg12 hg2 k0 k1
        go_wp2_with fail
        go_quiet (fail)
        go_wp2_with fail
        go_ret3
        exact ⟨HFin.out _ (grown_trans hG.out (below_grown (below_drawS _ _) _)), hne.out, rfl⟩
      | ok pc =>
        obtain ⟨t, q5⟩ := pc
        obtain ⟨rfl, hr5, hat⟩ := hpost
        have hql := cmdR_len hc
        simp only [List.length_cons] at hql
        have hal2 := hal.alloc hal.size (.cells #[.string rn, .slice pa na ca, .slice pt nt ct, .slice pb nb cb, .bool rbr, .int .i64 ra] 46)
        have hW := grown_trans hg12 (below_grown hal2 (some rb))
        have hat2 : CmdAt _ (Fresh wr _) ⟨rn, ⟨pa, na, ca⟩, ⟨pt, nt, ct⟩, ⟨pb, nb, cb⟩, rbr, ra⟩ t := hat.keeps (fun g _ hg => hal2.block g hg) hal2.size fun g hg => ⟨hg.1, Nat.lt_of_lt_of_le hg.2 hal2.size⟩
        have HP := Lib.hid (fun v6 w6 h6 hg6 hn6 => hA.put (v6 := v6) (w6 := w6) cmdAt_keeps hrb hW hat2 h6 hg6 hn6)
        have hO := (hA.move cmdAt_keeps hrb hW).own
        have hsO := Nat.le_trans hA.grown.size hW.size
        have hr6 := hr5.below hal2
        have hmo := hok _ _ rfl
        clear hat hat2 hW hr5 hok herr hal hg12 hg2 k0 k1
        go_wp2_with (at_builtin; go_loud (refine append_n _ rfl (.tmp 52) (.tmp 54) slC rfl W.heap.size _ R rfl hO ⟨_, 0, none⟩ [⟨rn, ⟨pa, na, ca⟩, ⟨pt, nt, ct⟩, ⟨pb, nb, cb⟩, rbr, ra⟩] 1 1 rfl rfl (cells_at _ _ (by simp) _ _) (by omega) (by omega) (by simpa using hsO) ?_; intro v6 w6 h6 hg6 hn6))
        have hA6 := HP.out v6 w6 h6 hg6 hn6
        have hr7 := hr6.own hg6 HOv.out
        go_roundw
        case rel =>
          rcases hmo with ⟨-, -, m7, r7, h1, h2⟩ | ⟨h0, -⟩
          · exact ⟨q5, _, _, hA6, hr7, by rw [List.length_append, List.length_singleton]; omega, m7, r7, h1, h2⟩
          · exact absurd rfl h0
        case measure => rw [hmq, mq_eq hr7]; omega
theorem scriptQ_any (s : ByteArray) (r : Except (Int × Int) (List CmdT)) (h : PRes s r) (hs : s.size ≤ 1000000) (w : World) : Calls Tryz.prog 13 #[.string s] w (ParsePost w r) := by
  rcases h with ⟨ts, k, h1, rfl⟩ | ⟨ts, m, h1, h2⟩
  · exact parseQ_bad s ts k h1 w (by omega)
  · refine parseQ_of s ts m r h1 ?_ h2 w (by omega)
    have := h1.count
    have hlen : s.data.toList.length = s.size := Array.length_toList
    omega
end Go.Proofs.YtgimgkjggaijoaaGreatDoor
