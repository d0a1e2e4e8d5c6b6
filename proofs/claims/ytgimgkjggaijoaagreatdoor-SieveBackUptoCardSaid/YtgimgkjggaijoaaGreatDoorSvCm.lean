/- Walks: the reader of filter scripts: test from tests. Walks: the reader of filter scripts: tests from test; both at any depth that the reader comes to. Small laws: commands as they lie, lists of them in the making. Walks: the reader of filter scripts: command, at any depth that the reader comes to. Walks: Parse of filter scripts. -/
import Derived.Test.YtgimgkjggaijoaaGreatDoorSvHA
import Derived.Test.YtgimgkjggaijoaaGreatDoorLxK
namespace Go.Proofs.YtgimgkjggaijoaaGreatDoor
open Go.RowKit Pk Lx Sv

/-- the state that tests begins in: good, or behind an error -/
def TsSt (E a : Int) (m d : Nat) (l : List Lex) (res : Res (List TestT)) (wv av : Int) : Prop :=
  (wv = 0 ∧ av = a ∧ testsR E m d l = some res) ∨ (wv ≠ 0 ∧ res = .error (wv, av))
def TestsC (m : Nat) : Prop := ∀ (rb : Nat) (l : List Lex) (E a wv av : Int) (d : Nat) (res : Res (List TestT)) (w : World), Rdr w rb l E wv av → (wv = 0 → l.length ≤ 4000000 ∧ d ≤ 9) → d ≤ 10 → TsSt E a m d l res wv av → Calls Tryz.prog 33 #[.pointer (some ⟨rb, 0, none⟩), .int .i64 d] w (TestsPost w rb E a res)
def TestC (m : Nat) : Prop := ∀ (rb : Nat) (l : List Lex) (E a : Int) (d : Nat) (res : Res TestT) (w : World), Rdr w rb l E 0 a → l.length ≤ 4000000 → d ≤ 9 → testR E m d l = some res → Calls Tryz.prog 68 #[.pointer (some ⟨rb, 0, none⟩), .int .i64 d] w (TestPost w rb E a res)
/-- what name leaves -/
def NamePost (w : World) (rb : Nat) (E a : Int) (res : Res (ByteArray × Int)) (e : Ending) (w' : World) : Prop :=
  w.grownBy w' (some rb) ∧ ∃ s i, e = .returned (.tuple #[.string s, .int .i64 i]) ∧ match res with
    | .ok (p, q) => Rdr w' rb q E 0 a ∧ p = (s, i)
    | .error (e1, a1) => ∃ q, Rdr w' rb q E e1 a1
theorem name_any (rb : Nat) (l : List Lex) (E a : Int) (d : Nat) (w : World) (h : Rdr w rb l E 0 a) : Calls Tryz.prog 31 #[.pointer (some ⟨rb, 0, none⟩), .int .i64 d] w (NamePost w rb E a (nameR E d l)) := by
  by_cases hk : (frontL E 0 l).k = 1
  · cases l with
    | nil => exact absurd (show (0 : Int) = 1 from hk) (by decide)
    | cons x r =>
      have hk : x.k = 1 := hk
      rw [nameR_cons, if_pos hk]
      by_cases hd : 8 < d
      · rw [if_pos hd]
        exact (name_deep rb x r E a d w h hk hd).mono fun e w' ⟨⟨s, i, he⟩, h1, h2⟩ => ⟨h2, s, i, he, r, h1⟩
      · rw [if_neg hd]
        exact (name_ok rb x r E a d w h hk (by omega)).mono fun e w' ⟨he, h1, h2⟩ => ⟨h2, _, _, he, h1, rfl⟩
  · have e : nameR E d l = .error (2, atL E l) := by
      cases l with
      | nil => rfl
      | cons x r => rw [nameR_cons, if_neg (show ¬ x.k = 1 from hk)]; rfl
    rw [e]
    exact (name_err rb l E a d w h hk).mono fun e w' ⟨⟨s, i, he⟩, h1, h2⟩ => ⟨h2, s, i, he, l, h1⟩
theorem nameR_len {E : Int} {d : Nat} {l : List Lex} {p} (h : nameR E d l = .ok p) : p.2.length < l.length := by
  obtain ⟨x, r, rfl, -, -, rfl⟩ := nameR_ok h
  simp
theorem argsR_len {E : Int} {m : Nat} {l : List Lex} {p} (h : argsR E m l = some (.ok p)) : p.2.length ≤ l.length := by
  obtain ⟨r, h1, h2⟩ := argsR_end E (max m (l.length + 1)) l (Nat.le_max_right _ _)
  rw [argsR_more E m _ l _ (Nat.le_max_left _ _) h] at h1
  injection h1 with h1
  exact h2 p h1.symm
theorem test_name {E : Int} {m d : Nat} {l : List Lex} {res : Res TestT} (hm : testR E (m + 1) d l = some res) :
    (∀ s i q, nameR E d l = .ok ((s, i), q) → ∃ rA, argsR E m q = some rA ∧ (∀ ag l2, rA = .ok (ag, l2) → ∃ rT, testsR E m (d + 1) l2 = some rT ∧ res = rT.map fun p => (.mk s ag p.1 i, p.2)) ∧ ∀ e, rA = .error e → res = .error e) ∧
    ∀ e, nameR E d l = .error e → res = .error e := by
  unfold testR at hm
  refine ⟨fun s i q hn => ?_, fun e hn => ?_⟩
  · rw [hn] at hm
    simp only at hm
    cases ha : argsR E m q with
    | none => rw [ha] at hm; cases hm
    | some rA =>
      rw [ha] at hm
      refine ⟨rA, rfl, fun ag l2 h => ?_, fun e h => ?_⟩
      · subst h
        simp only at hm
        cases ht : testsR E m (d + 1) l2 with
        | none => rw [ht] at hm; cases hm
        | some rT => rw [ht] at hm; injection hm with hm; exact ⟨rT, rfl, hm.symm⟩
      · subst h
        injection hm with hm
        exact hm.symm
  · rw [hn] at hm
    injection hm with hm
    exact hm.symm
set_option maxHeartbeats 8000000 in
set_option maxRecDepth 100000 in
theorem test_of (m : Nat) (hT : TestsC m) : TestC (m + 1) := by
  intro rb l E a d res w h hl hd hm
  have hrb := h.lt
  obtain ⟨hA, hB⟩ := test_name hm
  have hb0 := (Below.refl w.heap.size w).alloc (Nat.le_refl _) (.cells #[.string ⟨#[]⟩, .slice none 0 0, .slice none 0 0, .int .i64 0] 48)
  have HN := Lib.hid (name_any rb l E a d _ (h.below hb0))
  have hz0 := heap_alloc_new w (.cells #[.string ⟨#[]⟩, .slice none 0 0, .slice none 0 0, .int .i64 0] 48)
  clear hm
  go_enter Tryz.func68, Tryz.ntmps68
  go_wp2_with fail
  refine HN.out.mono ?_
  rintro e w1 ⟨hg1, s, i, rfl, hp1⟩
  have z1 := (hg1.block w.heap.size (by simp) (fun e => by injection e with e; omega)).trans hz0
  have z2 := block_set w1 w.heap.size 0 (.string s) z1
  have z3 := block_set _ w.heap.size 3 (.int .i64 i) z2
  have c1 := (cell4 z1).1
  have f1 := frozen_of_row w1 w.heap.size 0 _ _ z1
  have c2 := (cell4 (show _ = some (Obj.cells #[.string s, .slice none 0 0, .slice none 0 0, .int .i64 0] 48 (0, 0)) from z2)).2.2.2
  have f2 := frozen_of_row _ w.heap.size 3 _ _ z2
  go_wp2_with fail
  have gS := grown_trans (grownBy_set w1 w.heap.size 0 (.string s)) (grownBy_set _ w.heap.size 3 (.int .i64 i))
  have gW := grown_fresh (grown_trans (below_grown hb0 (some rb)) hg1) gS (Nat.le_refl _)
  have zW : ((w1.setCell ⟨w.heap.size, 0, none⟩ (.string s)).setCell ⟨w.heap.size, 3, none⟩ (.int .i64 i)).heap[w.heap.size]? = some (.cells #[.string s, .slice none 0 0, .slice none 0 0, .int .i64 i] 48) := z3
  have hst : ∃ (q : List Lex) (wv av : Int) (rA : Res (List ArgT)), Rdr w1 rb q E wv av ∧ (wv = 0 → q.length ≤ 4000000) ∧ ArSt E a m q [] rA wv av ∧ (∀ ag l2, rA = .ok (ag, l2) → (l2.length ≤ 4000000 ∧ d + 1 ≤ 9) ∧ ∃ rT, testsR E m (d + 1) l2 = some rT ∧ res = rT.map fun p => (.mk s ag p.1 i, p.2)) ∧ ∀ e, rA = .error e → e.1 ≠ 0 ∧ res = .error e := by
    cases hn : nameR E d l with
    | ok p =>
      obtain ⟨⟨s', i'⟩, q⟩ := p
      rw [hn] at hp1
      obtain ⟨hr, he⟩ := hp1
      injection he with e1 e2
      subst e1; subst e2
      obtain ⟨rA, h1, h2, h3⟩ := hA _ _ _ hn
      have hq := nameR_len hn
      have hd8 : d ≤ 8 := by obtain ⟨_, _, _, _, h, _⟩ := nameR_ok hn; exact h
      simp only at hq
      refine ⟨q, 0, a, rA, hr, fun _ => by omega, .inl ⟨rfl, rfl, m, rA, Nat.le_refl _, h1, by cases rA <;> rfl⟩, fun ag l2 h => ⟨?_, h2 ag l2 h⟩, fun e h => ⟨?_, h3 e h⟩⟩
      · subst h; have := argsR_len h1; simp only at this; exact ⟨by omega, by omega⟩
      · subst h; exact argsR_err h1
    | error e =>
      obtain ⟨e1, a1⟩ := e
      rw [hn] at hp1
      obtain ⟨q, hr⟩ := hp1
      have hne := nameR_err hn
      refine ⟨q, e1, a1, .error (e1, a1), hr, fun h => absurd h hne, .inr ⟨hne, rfl⟩, fun ag l2 h => (by cases h), fun e h => ?_⟩
      injection h with h
      subst h
      exact ⟨hne, hB _ hn⟩
  obtain ⟨q, wv, av, rA, hr, hq, hS, hok, herr⟩ := hst
  have hrW := hr.grown gS hrb trivial
  clear hA hB HN hz0 hp1 z1 z2 z3 c1 f1 c2 f2 hr
  generalize (w1.setCell ⟨w.heap.size, 0, none⟩ (.string s)).setCell ⟨w.heap.size, 3, none⟩ (.int .i64 i) = W at *
  refine (args_any rb q E a wv av m rA W hrW hq hS).mono ?_
  rintro e w2 ⟨hg2, ⟨p, n, c⟩, he, us, hus, hpost⟩
  dsimp only [SlV.val] at he
  subst he
  have y1 := (hg2.block w.heap.size (lt_of_block zW) (fun e => by injection e with e; omega)).trans zW
  have c1 := (cell4 y1).2.1
  have f1 := frozen_of_row w2 w.heap.size 1 _ _ y1
  have y2 : (w2.setCell ⟨w.heap.size, 1, none⟩ (.slice p n c)).heap[w.heap.size]? = some (.cells #[.string s, .slice p n c, .slice none 0 0, .int .i64 i] 48) := block_set w2 w.heap.size 1 (.slice p n c) y1
  have hst2 : ∃ (q2 : List Lex) (wv2 av2 : Int) (rT : Res (List TestT)), Rdr w2 rb q2 E wv2 av2 ∧ (wv2 = 0 → q2.length ≤ 4000000 ∧ d + 1 ≤ 9) ∧ TsSt E a m (d + 1) q2 rT wv2 av2 ∧ (∀ ts q3, rT = .ok (ts, q3) → res = .ok (.mk s us ts i, q3)) ∧ ∀ e, rT = .error e → res = .error e := by
    cases rA with
    | ok p2 =>
      obtain ⟨ag, l2⟩ := p2
      obtain ⟨hr2, rfl⟩ := hpost
      obtain ⟨hl2, rT, h1, h2⟩ := hok _ _ rfl
      exact ⟨l2, 0, a, rT, hr2, fun _ => hl2, .inl ⟨rfl, rfl, h1⟩, fun ts q3 h => by rw [h2, h]; rfl, fun e h => by rw [h2, h]; rfl⟩
    | error e =>
      obtain ⟨e1, a1⟩ := e
      obtain ⟨r, hr2⟩ := hpost
      obtain ⟨hne, hres⟩ := herr _ rfl
      exact ⟨r, e1, a1, .error (e1, a1), hr2, fun h => absurd h hne, .inr ⟨hne, rfl⟩, fun ts q3 h => (by cases h), fun e h => by injection h with h; rw [← h]; exact hres⟩
  obtain ⟨q2, wv2, av2, rT, hr2, hq2, hS2, hfin, hferr⟩ := hst2
  have gY := grownBy_set w2 w.heap.size 1 (.slice p n c)
  have hT2 := hT rb q2 E a wv2 av2 (d + 1) rT _ (hr2.grown gY hrb trivial) hq2 (by omega) hS2
  push_cast at hT2
  have HT2 := Lib.hid hT2
  have g2 := grown_fresh (grown_trans gW hg2) gY (Nat.le_refl _)
  have hWz := lt_of_block zW
  clear hT2 hT hr2 hS2 hq2 hok herr hrW hS hpost hq y1
  go_wp2_with fail
  refine HT2.out.mono ?_
  rintro e w3 ⟨hg3, ⟨p3, n3, c3⟩, he, ts, hts, hpost3⟩
  dsimp only [SlV.val] at he
  subst he
  have y3 := (hg3.block w.heap.size (lt_of_block y2) (fun e => by injection e with e; omega)).trans y2
  have cc3 := (cell4 y3).2.2.1
  have ff3 := frozen_of_row w3 w.heap.size 2 _ _ y3
  have y4 : (w3.setCell ⟨w.heap.size, 2, none⟩ (.slice p3 n3 c3)).heap[w.heap.size]? = some (.cells #[.string s, .slice p n c, .slice p3 n3 c3, .int .i64 i] 48) := block_set w3 w.heap.size 2 (.slice p3 n3 c3) y3
  obtain ⟨k0, k1, k2, k3⟩ := cell4 y4
  go_wp2_with (refine store_agg rfl 48 (.tmp 4) (.tmp 21) rfl w.heap.size #[.string s, .slice p n c, .slice p3 n3 c3, .int .i64 i] rfl rfl _ _ y4 (by kernel_rfl) rfl rfl ?_; intro w9 hw9 hg9; obtain ⟨s0, s1, s2, s3⟩ := cell4 hw9)
  (try simp only [Exit.inBlock, Exit.then])
  refine bodyPost_ret (v := (.agg #[.string s, .slice p n c, .slice p3 n3 c3, .int .i64 i])) (by simp [results, Tryz.results68, go_sem, *]) rfl ?_
  have gZ := grownBy_set w3 w.heap.size 2 (.slice p3 n3 c3)
  have hu9 := hus.keeps (w' := w9) (Y := Fresh w w9) (fun g hX hg => (hg9.block g (Nat.lt_of_lt_of_le hg (Nat.le_trans gY.size (Nat.le_trans hg3.size gZ.size))) (fun e => by injection e with e; have := hX.1; omega)).trans ((gZ.block g (Nat.lt_of_lt_of_le hg (Nat.le_trans gY.size hg3.size)) (fun e => by injection e with e; have := hX.1; omega)).trans ((hg3.block g (Nat.lt_of_lt_of_le hg gY.size) (fun e => by injection e with e; have := hX.1; omega)).trans (gY.block g hg (fun e => by injection e with e; have := hX.1; omega))))) (Nat.le_trans gY.size (Nat.le_trans hg3.size (Nat.le_trans gZ.size hg9.size))) fun g hX => ⟨by have := hX.1; omega, Nat.lt_of_lt_of_le hX.2 (Nat.le_trans gY.size (Nat.le_trans hg3.size (Nat.le_trans gZ.size hg9.size)))⟩
  have hgs := hg2.size
  have ht9 := hts.keeps (w' := w9) (Y := Fresh w w9) (fun g hX hg => (hg9.block g (Nat.lt_of_lt_of_le hg gZ.size) (fun e => by injection e with e; have := hX.1; have := gY.size; omega)).trans (gZ.block g hg (fun e => by injection e with e; have := hX.1; have := gY.size; omega))) (Nat.le_trans gZ.size hg9.size) fun g hX => ⟨by have := hX.1; have := gY.size; omega, Nat.lt_of_lt_of_le hX.2 (Nat.le_trans gZ.size hg9.size)⟩
  refine ⟨grown_fresh (grown_fresh (grown_trans g2 hg3) gZ (Nat.le_refl _)) hg9 (Nat.le_refl _), ⟨s, ⟨p, n, c⟩, ⟨p3, n3, c3⟩, i⟩, rfl, .mk s us ts i, ⟨rfl, rfl, hu9, ht9⟩, ?_⟩
  cases rT with
  | ok pp =>
    obtain ⟨tt, q3⟩ := pp
    obtain ⟨hr3, rfl⟩ := hpost3
    rw [hfin _ _ rfl]
    exact ⟨(hr3.grown gZ hrb trivial).grown hg9 hrb trivial, rfl⟩
  | error e =>
    obtain ⟨e1, a1⟩ := e
    obtain ⟨q3, hr3⟩ := hpost3
    rw [hferr _ rfl]
    exact ⟨q3, (hr3.grown gZ hrb trivial).grown hg9 hrb trivial⟩
end Go.Proofs.YtgimgkjggaijoaaGreatDoor
namespace Go.Proofs.YtgimgkjggaijoaaGreatDoor
open Go.RowKit Pk Lx Sv

/-- the state in the brackets: good, or behind an error -/
def MoreSt (E a : Int) (m d : Nat) (l : List Lex) (acc : List TestT) (res : Res (List TestT)) (wv av : Int) : Prop :=
  (wv = 0 ∧ av = a ∧ ∃ m' r, m' ≤ m ∧ moreR E m' d l = some r ∧ r.map (fun p => (acc ++ p.1, p.2)) = res) ∨ (wv ≠ 0 ∧ res = .error (wv, av))
theorem ms_cons {acc : List TestT} {t : TestT} (r' : Res (List TestT)) : (r'.map fun p => (t :: p.1, p.2)).map (fun p => (acc ++ p.1, p.2)) = r'.map fun p => ((acc ++ [t]) ++ p.1, p.2) := by
  cases r' with
  | error e => rfl
  | ok p => show Except.ok (acc ++ (t :: p.1), p.2) = Except.ok (acc ++ [t] ++ p.1, p.2); rw [List.append_assoc]; rfl
/-- a test and more behind it -/
theorem ms_next {E a : Int} {m m' d : Nat} {l : List Lex} {acc : List TestT} {res r : Res (List TestT)} (hm : m' ≤ m)
    (h1 : (match testR E m' d l with | none => none | some (.error e) => some (.error e) | some (.ok (t, l1)) => (moreR E m' d l1).map fun e => e.map fun p => (t :: p.1, p.2)) = some r) (hr : r.map (fun p => (acc ++ p.1, p.2)) = res) :
    ∃ rt, testR E m d l = some rt ∧ (∀ t l1, rt = .ok (t, l1) → MoreSt E a m d l1 (acc ++ [t]) res 0 a) ∧ ∀ e, rt = .error e → e.1 ≠ 0 ∧ res = .error e := by
  cases ht : testR E m' d l with
  | none => rw [ht] at h1; cases h1
  | some rt =>
    rw [ht] at h1
    refine ⟨rt, (tests_more E m' m hm).1 _ _ _ ht, fun t l1 h => ?_, fun e h => ?_⟩
    · subst h
      simp only at h1
      cases hq : moreR E m' d l1 with
      | none => rw [hq] at h1; cases h1
      | some r' =>
        rw [hq] at h1
        injection h1 with h1
        exact .inl ⟨rfl, rfl, m', r', hm, hq, by rw [← hr, ← h1, ms_cons]⟩
    · subst h
      injection h1 with h1
      refine ⟨(tests_err m').1 _ _ _ ht, ?_⟩
      rw [← hr, ← h1]; rfl
theorem ms_yes {E a : Int} {m m' d : Nat} {l : List Lex} {acc : List TestT} {res r : Res (List TestT)} (hm : m' ≤ m) (h1 : moreR E m' d l = some r) (hr : r.map (fun p => (acc ++ p.1, p.2)) = res) (h44 : isM 44 l = true) :
    ∃ rt, testR E m d l.tail = some rt ∧ (∀ t l1, rt = .ok (t, l1) → MoreSt E a m d l1 (acc ++ [t]) res 0 a) ∧ ∀ e, rt = .error e → e.1 ≠ 0 ∧ res = .error e := by
  cases m' with
  | zero => unfold moreR at h1; cases h1
  | succ m' =>
    unfold moreR at h1
    rw [if_pos h44] at h1
    exact ms_next (by omega) h1 hr
theorem ms_no {E : Int} {m' d : Nat} {l : List Lex} {acc : List TestT} {res r : Res (List TestT)} (h1 : moreR E m' d l = some r) (hr : r.map (fun p => (acc ++ p.1, p.2)) = res) (h44 : ¬ isM 44 l = true) :
    (isM 41 l = true → res = .ok (acc, l.tail)) ∧ (¬ isM 41 l = true → res = .error (2, atL E l)) := by
  cases m' with
  | zero => unfold moreR at h1; cases h1
  | succ m' =>
    unfold moreR at h1
    rw [if_neg h44] at h1
    injection h1 with h1
    rw [← hr, ← h1]
    unfold mustR
    refine ⟨fun h => ?_, fun h => ?_⟩
    · rw [if_pos h]
      show Except.ok (acc ++ [], l.tail) = _
      rw [List.append_nil]
    · rw [if_neg h]; rfl
theorem ts_name {E : Int} {m d : Nat} {l : List Lex} {res : Res (List TestT)} (h : testsR E (m + 1) d l = some res) (h1 : l.head?.map (·.k) = some 1) :
    ∃ rt, testR E m d l = some rt ∧ (∀ t l1, rt = .ok (t, l1) → res = .ok ([t], l1)) ∧ ∀ e, rt = .error e → res = .error e := by
  unfold testsR at h
  rw [if_pos h1] at h
  cases ht : testR E m d l with
  | none => rw [ht] at h; cases h
  | some rt =>
    rw [ht] at h
    injection h with h
    refine ⟨rt, rfl, fun t l1 hh => ?_, fun e hh => ?_⟩
    · rw [← h, hh]; rfl
    · rw [← h, hh]; rfl
theorem ts_par {E a : Int} {m d : Nat} {l : List Lex} {res : Res (List TestT)} (h : testsR E (m + 1) d l = some res) (h1 : ¬ l.head?.map (·.k) = some 1) (h40 : isM 40 l = true) :
    ∃ rt, testR E m d l.tail = some rt ∧ (∀ t l1, rt = .ok (t, l1) → MoreSt E a m d l1 ([] ++ [t]) res 0 a) ∧ ∀ e, rt = .error e → e.1 ≠ 0 ∧ res = .error e := by
  unfold testsR at h
  rw [if_neg h1, if_pos h40] at h
  exact ms_next (Nat.le_refl _) h (by cases res <;> rfl)
theorem ts_none {E : Int} {m d : Nat} {l : List Lex} {res : Res (List TestT)} (h : testsR E (m + 1) d l = some res) (h1 : ¬ l.head?.map (·.k) = some 1) (h40 : ¬ isM 40 l = true) : res = .ok ([], l) := by
  unfold testsR at h
  rw [if_neg h1, if_neg h40] at h
  injection h with h
  exact h.symm
theorem testR_len {E : Int} {m d : Nat} {l : List Lex} {p} (h : testR E m d l = some (.ok p)) : p.2.length < l.length := by
  obtain ⟨r, k1, k2⟩ := (tests_end E (max m (2 * l.length + 1))).1 d l (Nat.le_max_right _ _)
  have := (tests_more E m _ (Nat.le_max_left m (2 * l.length + 1))).1 _ _ _ h
  rw [this] at k1
  injection k1 with k1
  exact k2 p k1.symm
/-- one test more -/
def TsNext (w : World) (rb : Nat) (E a : Int) (m d : Nat) (res : Res (List TestT)) (v : Value) (wr : World) : Prop :=
  ∃ (l : List Lex) (R : List RTest) (acc : List TestT) (wv av : Int), LsAt testL 48 TestAt w rb wr v R acc ∧ Rdr wr rb l E wv av ∧ (wv = 0 → l.length + R.length ≤ 4000000) ∧ MoreSt E a m d l acc res wv av
/-- the state behind a test -/
theorem ts_state {w2 : World} {rb : Nat} {E a : Int} {m d : Nat} {l0 : List Lex} {acc : List TestT} {res : Res (List TestT)} {rt : Res TestT} {t : TestT} (hp : match rt with | .ok (t', q) => Rdr w2 rb q E 0 a ∧ t' = t | .error (e1, a1) => ∃ q, Rdr w2 rb q E e1 a1)
    (ht : testR E m d l0 = some rt)
    (h1 : ∀ t l1, rt = .ok (t, l1) → MoreSt E a m d l1 (acc ++ [t]) res 0 a) (h2 : ∀ e, rt = .error e → e.1 ≠ 0 ∧ res = .error e) :
    ∃ q wv av, Rdr w2 rb q E wv av ∧ (wv = 0 → q.length < l0.length) ∧ MoreSt E a m d q (acc ++ [t]) res wv av := by
  cases rt with
  | ok p =>
    obtain ⟨t', q⟩ := p
    obtain ⟨hr, rfl⟩ := hp
    exact ⟨q, 0, a, hr, fun _ => testR_len ht, h1 _ _ rfl⟩
  | error e =>
    obtain ⟨e1, a1⟩ := e
    obtain ⟨q, hr⟩ := hp
    obtain ⟨h3, h4⟩ := h2 _ rfl
    exact ⟨q, e1, a1, hr, fun h => absurd h h3, .inr ⟨h3, h4⟩⟩
set_option maxHeartbeats 8000000 in
set_option maxRecDepth 100000 in
/-- behind an error nothing is read -/
theorem tests_bad (rb : Nat) (l : List Lex) (E a wv av : Int) (d : Nat) (w : World) (h : Rdr w rb l E wv av) (hne : wv ≠ 0) : Calls Tryz.prog 33 #[.pointer (some ⟨rb, 0, none⟩), .int .i64 d] w (TestsPost w rb E a (.error (wv, av))) := by
  have HF := Lib.hid (front_any rb l E wv av w h)
  have hB := fun w1 (hb : Below w.heap.size w w1) => h.below hb
  have HB := Lib.hid hB
  unfold lexV at HF
  have hF : frontL E wv l = zeroL E := by unfold frontL; rw [if_neg hne]
  have HM := Lib.hid (fun w1 (hb : Below w.heap.size w w1) => mark_no rb l E wv av ⟨#[40]⟩ 40 rfl w1 (h.below hb) (fun h => absurd h hne))
  have hfd := fld0 (zeroL E)
  rw [hF] at HF
  unfold zeroL at HF hfd
  clear h hB hF
  go_enter Tryz.func33, Tryz.ntmps33
  go_wp2_with fail
  refine HF.out.mono ?_
  rintro e w1 ⟨rfl, hb1⟩
  go_wp2_with fail
  refine (HM.out w1 hb1).mono ?_
  rintro e w2 ⟨rfl, hb2⟩
  have hb := hb1.trans (hb2.mono hb1.size)
  go_wp2_with fail
  go_ret
  exact ⟨below_grown hb _, ⟨none, 0, 0⟩, rfl, [], TestsAt.nil _ _, l, HB.out _ hb⟩
set_option maxHeartbeats 8000000 in
set_option maxRecDepth 100000 in
theorem tests_of (m : Nat) (hT : TestC m) : TestsC (m + 1) := by
  intro rb l E a wv av d res w h hl hd hS
  have hrb := h.lt
  have HF := Lib.hid (front_any rb l E wv av w h)
  have hB := fun w1 (hb : Below w.heap.size w w1) => h.below hb
  have HB := Lib.hid hB
  unfold lexV at HF
  rcases hS with ⟨rfl, rfl, hm⟩ | ⟨hne, rfl⟩
  · have hl := hl rfl
    by_cases h1 : l.head?.map (·.k) = some 1
    · obtain ⟨rt, ht, hok, herr⟩ := ts_name hm h1
      have hk : (frontL E 0 l).k = 1 := by
        cases l with
        | nil => cases h1
        | cons x r => injection h1
      have q1 : ((frontL E 0 l).k == 1) = true := beq_iff_eq.2 hk
      have HT := Lib.hid (fun w1 (hb : Below w.heap.size w w1) => hT rb l E av d rt w1 (h.below hb) hl.1 hl.2 ht)
      have hfd := fld0 (frontL E 0 l)
      generalize frontL E 0 l = x at *
      clear h hB hT hm hk h1 ht HB
      go_enter Tryz.func33, Tryz.ntmps33
      go_wp2_with fail
      refine HF.out.mono ?_
      rintro e w1 ⟨rfl, hb1⟩
      go_wp2_with fail
      refine (HT.out w1 hb1).mono ?_
      rintro e w2 ⟨hg2, ⟨rn, ⟨p, n, c⟩, ⟨p', n', c'⟩, ra⟩, he, t, hat, hmatch⟩
      dsimp only [SlV.val] at he
      subst he
      go_wp2_with fail
      go_ret
      have hLs := LsAt.lit (w := w) (L := testL) (e := 48) testAt_keeps (grown_trans (below_grown hb1 (some rb)) hg2) (hat.keeps (Y := Fresh w w2) (fun _ _ _ => rfl) (Nat.le_refl _) fun g hg => ⟨Nat.le_trans hb1.size hg.1, hg.2⟩)
      obtain ⟨hd1, hd2⟩ := hLs.done testAt_keeps
      refine ⟨hLs.grown, ⟨_, 1, 1⟩, rfl, [t], TestsAt.of hd1 hd2, ?_⟩
      have hbA := (Below.refl w2.heap.size w2).alloc (Nat.le_refl _) (.cells #[.string rn, .slice p n c, .slice p' n' c', .int .i64 ra] 48)
      cases rt with
      | ok pp =>
        obtain ⟨t', q⟩ := pp
        obtain ⟨hr, rfl⟩ := hmatch
        rw [hok _ _ rfl]
        exact ⟨hr.below hbA, rfl⟩
      | error e =>
        obtain ⟨e1, a1⟩ := e
        obtain ⟨q, hr⟩ := hmatch
        rw [herr _ rfl]
        exact ⟨q, hr.below hbA⟩
    · have hk : (frontL E 0 l).k ≠ 1 := by
        cases l with
        | nil => show (0 : Int) ≠ 1; decide
        | cons x r => exact fun e => h1 (congrArg some e)
      have q1 : ((frontL E 0 l).k == 1) = false := beq_eq_false_iff_ne.2 hk
      have hfd := fld0 (frontL E 0 l)
      by_cases h40 : isM 40 l = true
      · obtain ⟨rt, ht, hok, herr⟩ := ts_par (a := av) hm h1 h40
        cases l with
        | nil => cases h40
        | cons y r =>
          have HM := Lib.hid (fun w1 (hb : Below w.heap.size w w1) => mark_yes rb y r E av ⟨#[40]⟩ 40 rfl w1 (h.below hb) h40)
          have HT := Lib.hid (fun w1 (hr : Rdr w1 rb r E 0 av) => hT rb r E av d rt w1 hr (by have := hl.1; rw [List.length_cons] at this; omega) hl.2 ht)
          have hll := hl.1
          have hd9 := hl.2
          rw [List.length_cons] at hll
          rw [List.tail_cons] at ht
          generalize frontL E 0 (y :: r) = x at *
          clear h hB hm hk h1 HB h40 hl
          have hTT := Lib.hid hT
          clear hT
          go_enter Tryz.func33, Tryz.ntmps33
          go_wp2_with fail
          refine HF.out.mono ?_
          rintro e w1 ⟨rfl, hb1⟩
          go_wp2_with fail
          refine (HM.out w1 hb1).mono ?_
          rintro e w2 ⟨rfl, hr2, hg2⟩
          go_wp2_with fail
          refine (HT.out w2 hr2).mono ?_
          rintro e w3 ⟨hg3, ⟨rn, ⟨p, n, c⟩, ⟨p', n', c'⟩, ra⟩, he, t, hat, hmatch⟩
          dsimp only [SlV.val] at he
          subst he
          have hW3 := grown_trans (grown_trans (below_grown hb1 (some rb)) hg2) hg3
          have hLs := LsAt.lit (w := w) (L := testL) (e := 48) testAt_keeps hW3 (hat.keeps (Y := Fresh w w3) (fun _ _ _ => rfl) (Nat.le_refl _) fun g hg => ⟨Nat.le_trans hb1.size (Nat.le_trans hg2.size hg.1), hg.2⟩)
          have hbA := (Below.refl w3.heap.size w3).alloc (Nat.le_refl _) (.cells #[.string rn, .slice p n c, .slice p' n' c', .int .i64 ra] 48)
          obtain ⟨q, wv, av', hr3, hq, hst⟩ := ts_state hmatch ht hok herr
          have h0 : TsNext w rb E av m d res (.slice (some ⟨w3.heap.size, 0, none⟩) 1 1) (w3.alloc (.cells #[.string rn, .slice p n c, .slice p' n' c', .int .i64 ra] 48)) :=
            ⟨q, _, _, wv, av', hLs, hr3.below hbA, fun h => by have := hq h; simp only [List.length_cons, List.length_nil]; omega, hst⟩
          clear HM HT HF hok herr hmatch hat hLs hst hr3 hq hr2 hg2 hg3 hb1 hW3 hbA hfd q1
          go_wp2_with fail
          go_loopw [5] (fun v wr => TsNext w rb E av m d res v wr) (fun _ wr => mz wr rb)
          case atStart => exact h0
          case round =>
            clear h0
            obtain ⟨l', R, acc, wv', av', hA, hR, hlen, hst⟩ := hrel
            rcases hst with ⟨rfl, rfl, m', rr, hm', hmr, hres⟩ | ⟨hw0, rfl⟩
            · have hlen := hlen rfl
              have hmz := mz_good hR
              by_cases h44 : isM 44 l' = true
              · obtain ⟨rt, ht, hok, herr⟩ := ms_yes (a := av') hm' hmr hres h44
                cases l' with
                | nil => cases h44
                | cons y q =>
                  rw [List.length_cons] at hlen hmz
                  rw [List.tail_cons] at ht
                  have HM := Lib.hid (mark_yes rb y q E av' ⟨#[44]⟩ 44 rfl wr hR h44)
                  have hov := hA.past hrb
                  clear hmr hres h44
                  go_wp2_with fail
                  refine HM.out.mono ?_
                  rintro e w1 ⟨rfl, hr1, hg1⟩
                  go_wp2_with fail
                  refine (hTT.out rb q E av' d rt w1 hr1 (by omega) hd9 ht).mono ?_
                  rintro e w2 ⟨hg2, ⟨rn, ⟨p, n, c⟩, ⟨p', n', c'⟩, ra⟩, he, t, hat, hmatch⟩
                  dsimp only [SlV.val] at he
                  subst he
                  have hA2 := hA.move testAt_keeps hrb (grown_trans hg1 hg2)
                  have hal := (Below.refl w2.heap.size w2).alloc (Nat.le_refl _) (.cells #[.string rn, .slice p n c, .slice p' n' c', .int .i64 ra] 48)
                  have hW := grown_trans (grown_trans hg1 hg2) (below_grown hal (some rb))
                  have hat2 : TestAt (w2.alloc (.cells #[.string rn, .slice p n c, .slice p' n' c', .int .i64 ra] 48)) (Fresh wr (w2.alloc (.cells #[.string rn, .slice p n c, .slice p' n' c', .int .i64 ra] 48))) ⟨rn, ⟨p, n, c⟩, ⟨p', n', c'⟩, ra⟩ t :=
                    hat.keeps (fun g _ hg => hal.block g hg) hal.size fun g hg => ⟨Nat.le_trans hg1.size hg.1, Nat.lt_of_lt_of_le hg.2 hal.size⟩
                  have HP := Lib.hid (fun v6 w6 h6 hg6 hn6 => hA.put (v6 := v6) (w6 := w6) testAt_keeps hrb hW hat2 h6 hg6 hn6)
                  clear hat2 hW hat
                  go_wp2_with (at_builtin; go_loud (refine append_n _ rfl (.tmp 23) (.tmp 27) slT rfl w.heap.size _ R rfl (ownsG.alloc hA2.own _) ⟨_, 0, none⟩ [⟨rn, ⟨p, n, c⟩, ⟨p', n', c'⟩, ra⟩] 1 1 rfl rfl (cells_at _ _ (by simp) _ _) (by omega) (by omega) (by have := hA2.grown.size; simp; omega) ?_; intro v6 w6 h6 hg6 hn6))
                  have hA6 := HP.out v6 w6 h6 hg6 hn6
                  obtain ⟨q2, wv2, av2, hr3, hq, hst⟩ := ts_state hmatch ht hok herr
                  have hr6 := (hr3.below hal).own hg6 hov
                  go_roundw
                  case rel => exact ⟨q2, _, _, wv2, av2, hA6, hr6, fun h => by have := hq h; rw [List.length_append, List.length_singleton]; omega, hst⟩
                  case measure =>
                    by_cases hw2 : wv2 = 0
                    · subst hw2
                      have h3 : av2 = av' := by
                        rcases hst with h | h
                        · exact h.2.1
                        · exact absurd rfl h.1
                      rw [hmz, mz_good hr6]
                      have := hq rfl
                      omega
                    · rw [hmz, mz_bad hr6 hw2]; omega
              · obtain ⟨he1, he2⟩ := ms_no hmr hres h44
                have HM := Lib.hid (mark_no rb l' E 0 av' ⟨#[44]⟩ 44 rfl wr hR (fun _ => by simpa using h44))
                clear hmr hres
                go_wp2_with fail
                refine HM.out.mono ?_
                rintro e w1 ⟨rfl, hb1⟩
                go_wp2_with fail
                by_cases h41 : isM 41 l' = true
                · obtain rfl := he1 h41
                  cases l' with
                  | nil => cases h41
                  | cons y q =>
                    refine (must_yes rb y q E av' ⟨#[41]⟩ 41 rfl _ (hR.below hb1) h41).mono ?_
                    rintro e w2 ⟨rfl, h3, h4⟩
                    go_wp2_with fail
                    go_ret
                    have hA3 := (hA.move testAt_keeps hrb (below_grown hb1 (some rb))).move testAt_keeps hrb h4
                    obtain ⟨p, n, c, rfl⟩ := own_slice hA.own
                    obtain ⟨k1, k2⟩ := hA3.done testAt_keeps
                    exact ⟨hA3.grown, ⟨p, n, c⟩, rfl, _, TestsAt.of k1 k2, h3, rfl⟩
                · obtain rfl := he2 h41
                  refine (must_no rb l' E 0 av' ⟨#[41]⟩ 41 rfl _ (hR.below hb1) (fun _ => by simpa using h41)).mono ?_
                  rintro e w2 ⟨rfl, h3, h4⟩
                  go_wp2_with fail
                  go_ret
                  have hA3 := (hA.move testAt_keeps hrb (below_grown hb1 (some rb))).move testAt_keeps hrb h4
                  obtain ⟨p, n, c, rfl⟩ := own_slice hA.own
                  obtain ⟨k1, k2⟩ := hA3.done testAt_keeps
                  exact ⟨hA3.grown, ⟨p, n, c⟩, rfl, _, TestsAt.of k1 k2, l', h3⟩
            · have HM := Lib.hid (mark_no rb l' E wv' av' ⟨#[44]⟩ 44 rfl wr hR (fun h => absurd h hw0))
              go_wp2_with fail
              refine HM.out.mono ?_
              rintro e w1 ⟨rfl, hb1⟩
              go_wp2_with fail
              refine (must_no rb l' E wv' av' ⟨#[41]⟩ 41 rfl _ (hR.below hb1) (fun h => absurd h hw0)).mono ?_
              rintro e w2 ⟨rfl, h3, h4⟩
              have e1 : errE wv' 2 = wv' := if_neg hw0
              have e2 : errP wv' av' (atL E l') = av' := if_neg hw0
              rw [e1, e2] at h3
              go_wp2_with fail
              go_ret
              have hA3 := (hA.move testAt_keeps hrb (below_grown hb1 (some rb))).move testAt_keeps hrb h4
              obtain ⟨p, n, c, rfl⟩ := own_slice hA.own
              obtain ⟨k1, k2⟩ := hA3.done testAt_keeps
              exact ⟨hA3.grown, ⟨p, n, c⟩, rfl, _, TestsAt.of k1 k2, l', h3⟩
      · obtain rfl := ts_none hm h1 h40
        have HM := Lib.hid (fun w1 (hb : Below w.heap.size w w1) => mark_no rb l E 0 av ⟨#[40]⟩ 40 rfl w1 (h.below hb) (fun _ => by simpa using h40))
        generalize frontL E 0 l = x at *
        clear h hB hm hk h1 hT h40
        go_enter Tryz.func33, Tryz.ntmps33
        go_wp2_with fail
        refine HF.out.mono ?_
        rintro e w1 ⟨rfl, hb1⟩
        go_wp2_with fail
        refine (HM.out w1 hb1).mono ?_
        rintro e w2 ⟨rfl, hb2⟩
        have hb := hb1.trans (hb2.mono hb1.size)
        go_wp2_with fail
        go_ret
        exact ⟨below_grown hb _, ⟨none, 0, 0⟩, rfl, [], TestsAt.nil _ _, HB.out _ hb, rfl⟩
  · exact tests_bad rb l E a wv av d w h hne
theorem testsC_any : ∀ m, TestsC m ∧ TestC m
  | 0 => ⟨fun rb l E a wv av d res w h hl hd hS => by
      rcases hS with ⟨-, -, hm⟩ | hS
      · unfold testsR at hm; cases hm
      · obtain ⟨hne, rfl⟩ := hS; exact tests_bad rb l E a wv av d w h hne, fun rb l E a d res w h hl hd hm => by unfold testR at hm; cases hm⟩
  | m + 1 => ⟨tests_of m (testsC_any m).2, test_of m (testsC_any m).1⟩
end Go.Proofs.YtgimgkjggaijoaaGreatDoor
namespace Go.Proofs.YtgimgkjggaijoaaGreatDoor
open Go.RowKit Pk Lx Sv

/-- a command as it lies -/
structure RCmd where
  name : ByteArray
  ag : SlV
  ts : SlV
  bl : SlV
  br : Bool
  at_ : Int
def cmdL : Lay RCmd where
  enc := fun x => [.string x.name, x.ag.val, x.ts.val, x.bl.val, .bool x.br, .int .i64 x.at_]
  k := 6
  hk := fun _ => rfl
  h0 := by decide
  one := fun x u hu => by
    simp only [List.mem_cons, List.not_mem_nil, or_false] at hu
    rcases hu with rfl | rfl | rfl | rfl | rfl | rfl <;> rfl
theorem slC : GSl cmdL 104 Tryz.prog 23 46 := GSl.of Tryz.underlying23 (by kernel_rfl)
def cName : CmdT → ByteArray | .mk n _ _ _ _ _ => n
def cArgs : CmdT → List ArgT | .mk _ a _ _ _ _ => a
def cTests : CmdT → List TestT | .mk _ _ t _ _ _ => t
def cBlock : CmdT → List CmdT | .mk _ _ _ b _ _ => b
def cBr : CmdT → Bool | .mk _ _ _ _ b _ => b
def cAt : CmdT → Int | .mk _ _ _ _ _ p => p
/-- a list of commands, read in blocks of a set -/
inductive CmdsAt (w : World) (X : Nat → Prop) : Value → List CmdT → Prop
  | mk (v : Value) (R : List RCmd) (L : List CmdT) (hr : ReadsR cmdL w X v R) (hl : R.length = L.length)
      (hn : ∀ j (h1 : j < R.length) (h2 : j < L.length), R[j].name = cName L[j] ∧ R[j].at_ = cAt L[j] ∧ R[j].br = cBr L[j])
      (ha : ∀ j (h1 : j < R.length) (h2 : j < L.length), ArgsAt w X R[j].ag.val (cArgs L[j]))
      (ht : ∀ j (h1 : j < R.length) (h2 : j < L.length), TestsAt w X R[j].ts.val (cTests L[j]))
      (hk : ∀ j (h1 : j < R.length) (h2 : j < L.length), CmdsAt w X R[j].bl.val (cBlock L[j])) : CmdsAt w X v L
def CmdAt (w : World) (X : Nat → Prop) (r : RCmd) (t : CmdT) : Prop := (r.name = cName t ∧ r.at_ = cAt t ∧ r.br = cBr t) ∧ ArgsAt w X r.ag.val (cArgs t) ∧ TestsAt w X r.ts.val (cTests t) ∧ CmdsAt w X r.bl.val (cBlock t)
theorem CmdsAt.of {w : World} {X : Nat → Prop} {v : Value} {R : List RCmd} {L : List CmdT} (hr : ReadsR cmdL w X v R) (he : Elems CmdAt w X R L) : CmdsAt w X v L :=
  .mk v R L hr he.1 (fun j a b => (he.2 j a b).1) (fun j a b => (he.2 j a b).2.1) (fun j a b => (he.2 j a b).2.2.1) (fun j a b => (he.2 j a b).2.2.2)
theorem CmdsAt.out {w : World} {X : Nat → Prop} {v : Value} {L : List CmdT} (h : CmdsAt w X v L) : ∃ R, ReadsR cmdL w X v R ∧ Elems CmdAt w X R L := by
  cases h with
  | mk v R L hr hl hn ha ht hk => exact ⟨R, hr, hl, fun j a b => ⟨hn j a b, ha j a b, ht j a b, hk j a b⟩⟩
theorem CmdsAt.keeps {w w' : World} {X Y : Nat → Prop} {v : Value} {L : List CmdT} (h : CmdsAt w X v L) (hK : ∀ g, X g → g < w.heap.size → w'.heap[g]? = w.heap[g]?) (hs : w.heap.size ≤ w'.heap.size) (hY : ∀ g, X g → Y g) : CmdsAt w' Y v L := by
  induction h with
  | mk v R L hr hl hn ha ht hk ih => exact .mk v R L (hr.keeps hK hs hY) hl hn (fun j a b => (ha j a b).keeps hK hs hY) (fun j a b => (ht j a b).keeps hK hs hY) ih
theorem CmdAt.keeps {w w' : World} {X Y : Nat → Prop} {r : RCmd} {t : CmdT} (h : CmdAt w X r t) (hK : ∀ g, X g → g < w.heap.size → w'.heap[g]? = w.heap[g]?) (hs : w.heap.size ≤ w'.heap.size) (hY : ∀ g, X g → Y g) : CmdAt w' Y r t :=
  ⟨h.1, h.2.1.keeps hK hs hY, h.2.2.1.keeps hK hs hY, h.2.2.2.keeps hK hs hY⟩
theorem CmdsAt.nil (w : World) (X : Nat → Prop) : CmdsAt w X (.slice none 0 0) [] := .of (ReadsR.nil _ _ _) (Elems.nil _ _ _)
theorem cmdAt_keeps : Keeps CmdAt := fun _ _ _ _ _ _ h h1 h2 h3 => h.keeps h1 h2 h3
theorem cell6 {w : World} {g : Nat} {a b c d e f' : Value} {t : TypeId} {f : Nat × Nat} (h : w.heap[g]? = some (.cells #[a, b, c, d, e, f'] t f)) : w.cell? ⟨g, 0, none⟩ = some a ∧ w.cell? ⟨g, 1, none⟩ = some b ∧ w.cell? ⟨g, 2, none⟩ = some c ∧ w.cell? ⟨g, 3, none⟩ = some d ∧ w.cell? ⟨g, 4, none⟩ = some e ∧ w.cell? ⟨g, 5, none⟩ = some f' := by
  unfold World.cell?
  simp [h]

/-! a list in the making whose blocks lie past B; what lies below may change -/
structure LsB {α β : Type} (L : Lay α) (e : TypeId) (At : World → (Nat → Prop) → α → β → Prop) (B : Nat) (wr : World) (v : Value) (R : List α) (acc : List β) : Prop where
  own : ownsG L wr B e v R
  els : Elems At wr (Mine B wr v) R acc
theorem LsB.nil {α β : Type} (L : Lay α) (e : TypeId) (At : World → (Nat → Prop) → α → β → Prop) (B : Nat) (wr : World) : LsB L e At B wr (.slice none 0 0) [] ([] : List β) := ⟨ownsG.nil _ _ _ _, Elems.nil _ _ _⟩
theorem LsB.move {α β : Type} {L : Lay α} {e : TypeId} {At : World → (Nat → Prop) → α → β → Prop} (hAt : Keeps At) {B b : Nat} {wr W : World} {v : Value} {R : List α} {acc : List β} (h : LsB L e At B wr v R acc) (hb : b < B) (hg : wr.grownBy W (some b)) : LsB L e At B W v R acc :=
  ⟨ownsG_grown h.own hg hb, h.els.keeps fun _ _ hb => hAt _ _ _ _ _ _ hb (fun g hX hg2 => hg.block g hg2 (fun e => by injection e with e; have := hX.1; omega)) hg.size fun g hX => ⟨hX.1, Nat.lt_of_lt_of_le hX.2.1 hg.size, hX.2.2⟩⟩
theorem LsB.put {α β : Type} {L : Lay α} {e : TypeId} {At : World → (Nat → Prop) → α → β → Prop} (hAt : Keeps At) {B b' : Nat} {wr W w6 : World} {v v6 : Value} {R : List α} {acc : List β} {r : α} {b : β} (h : LsB L e At B wr v R acc) (hb : b' < B) (hB : B ≤ wr.heap.size) (hg : wr.grownBy W (some b')) (hat : At W (Fresh wr W) r b)
    (h6 : ownsG L w6 B e v6 (R ++ [r])) (hg6 : W.grownBy w6 v.ownBlock) (hn : NewOwn W v v6) : LsB L e At B w6 v6 (R ++ [r]) (acc ++ [b]) := by
  have hv : ∀ k, v.ownBlock = some k → B ≤ k ∧ k < wr.heap.size := fun k hk => World.ownsRow.lt h.own k hk
  have hm := h.move hAt hb hg
  have hat2 : At W (Mine B W v) r b := hAt _ _ _ _ _ _ hat (fun _ _ _ => rfl) (Nat.le_refl _) fun g hX => ⟨Nat.le_trans hB hX.1, hX.2, fun e => by have := (hv g e.symm).2; have := hX.1; omega⟩
  exact ⟨h6, (hm.els.snoc hat2).keeps fun _ _ hb => hAt _ _ _ _ _ _ hb (fun g hX hg2 => hg6.block g hg2 hX.2.2) hg6.size fun g hX => hX.next hg6.size hn⟩
theorem LsB.done {α β : Type} {L : Lay α} {e : TypeId} {At : World → (Nat → Prop) → α → β → Prop} (hAt : Keeps At) {B : Nat} {wr : World} {v : Value} {R : List α} {acc : List β} (h : LsB L e At B wr v R acc) : ReadsR L wr (fun g => B ≤ g ∧ g < wr.heap.size) v R ∧ Elems At wr (fun g => B ≤ g ∧ g < wr.heap.size) R acc :=
  ⟨h.own.reads fun g hg => World.ownsRow.lt h.own g hg, h.els.keeps fun _ _ hb => hAt _ _ _ _ _ _ hb (fun _ _ _ => rfl) (Nat.le_refl _) fun _ hX => ⟨hX.1, hX.2.1⟩⟩
theorem LsB.lt {α β : Type} {L : Lay α} {e : TypeId} {At : World → (Nat → Prop) → α → β → Prop} {B : Nat} {wr : World} {v : Value} {R : List α} {acc : List β} (h : LsB L e At B wr v R acc) : ∀ k, v.ownBlock = some k → B ≤ k ∧ k < wr.heap.size := fun k hk => World.ownsRow.lt h.own k hk
theorem grown_own {w W w6 : World} {r o : Option Nat} (h : w.grownBy W r) (hg : W.grownBy w6 o) (ho : ∀ k, o = some k → w.heap.size ≤ k) : w.grownBy w6 r :=
  ⟨hg.os.trans h.os, hg.tape.trans h.tape, hg.output.trans h.output, Nat.le_trans h.size hg.size, fun i hi hr => (hg.block i (Nat.lt_of_lt_of_le hi h.size) (fun e => by have := ho i e.symm; omega)).trans (h.block i hi hr)⟩

/-- an append in a drawn region -/
theorem step_n {α : Type} {L : Lay α} {bytes : Nat} {P : Program} {w : World} {ops : Array Oper} {o : Oper} {a : Act} {K : Act → World → Prop} {Q : Exit → Act → World → Prop} {X : Prop} (hgd : o.guard = none) (s x : Operand) {t e : TypeId} (hT : GSl L bytes P t e)
    (ho : o.op = .call { callee := .builtin .append, args := #[s, x], argTypes := #[t, t] }) (B : Nat) (v : Value) (l : List α) (hs : a.eval s = v) (hown : ownsG L w B e v l)
    (ad : Addr) (ys : List α) (m c : Nat) (hx : a.eval x = .slice (some ad) m c) (hm : ys.length = m) (hc : ∀ j u, (ys.flatMap L.enc)[j]? = some u → w.cell? (ad.add j) = some u)
    (hl : (l.length + m) * bytes ≤ 140737488355328) (h63 : l.length + m ≤ 140737488355328) (hB : B ≤ w.heap.size)
    (h : ∀ v' w', ownsG L w' B e v' (l ++ ys) → w.grownBy w' v.ownBlock → NewOwn w v v' → K (a.put o.dst v') w') : if Region.wanted o (yielded ops a.tmps) = true then Oper.wp P o a w K Q else X := by
  rw [if_pos (by simp [Region.wanted, hgd])]
  obtain ⟨i, z, hi, hz, hzs, hsize, hby⟩ := hT.hi
  obtain ⟨v', w', hr, h2, h3, h4⟩ := run_append_new (P := P) w B t o.type e i z L.k bytes hT.ht hi hz hsize hby hzs L.h0 v l.length (l.flatMap L.enc) hown ad m c (ys.flatMap L.enc) (by rw [encG_length, hm]) hc (by intro u hu; obtain ⟨y, _, hy⟩ := List.mem_flatMap.1 hu; exact L.one y u hy) (by unfold maxLen; omega) hl hB
  unfold Oper.wp execOp
  simp only [ho, resolve, invoke, builtin, Sem.run_bind, Sem.run_pure, Result.andThen_ok, List.map_toArray, List.map_cons, List.map_nil, hs, hx, hr]
  refine h v' w' ?_ h3 h4
  unfold ownsG
  rw [List.length_append, List.flatMap_append, hm]
  exact h2
/-! error codes -/
theorem cmd_err {E : Int} : ∀ (m : Nat), (∀ d l e, cmdR E m d l = some (.error e) → e.1 ≠ 0) ∧ (∀ d l e, blockR E m d l = some (.error e) → e.1 ≠ 0)
  | 0 => ⟨fun d l e h => by (unfold cmdR at h; cases h), fun d l e h => by (unfold blockR at h; cases h)⟩
  | m + 1 => by
    obtain ⟨h1, h2⟩ := cmd_err (E := E) m
    refine ⟨fun d l e h => ?_, fun d l e h => ?_⟩
    · unfold cmdR at h
      cases hn : nameR E d l with
      | error e' => rw [hn] at h; injection h with h; injection h with h; rw [← h]; exact nameR_err hn
      | ok p =>
        rw [hn] at h
        simp only at h
        cases ha : argsR E m p.2 with
        | none => rw [ha] at h; cases h
        | some a =>
          rw [ha] at h
          cases a with
          | error e' => injection h with h; injection h with h; rw [← h]; exact argsR_err ha
          | ok q =>
            simp only at h
            cases ht : testsR E m (d + 1) q.2 with
            | none => rw [ht] at h; cases h
            | some r =>
              rw [ht] at h
              cases r with
              | error e' => injection h with h; injection h with h; rw [← h]; exact (tests_err m).2.1 _ _ _ ht
              | ok u =>
                simp only at h
                split at h
                · cases hb : blockR E m (d + 1) u.2.tail with
                  | none => rw [hb] at h; cases h
                  | some r => rw [hb] at h; injection h with h; exact h2 _ _ _ (by rw [hb, emap_err h])
                · injection h with h
                  have := (mustR_err (emap_err h)).1
                  rw [this]; show (2 : Int) ≠ 0; decide
    · unfold blockR at h
      split at h
      · injection h with h; cases h
      · cases ht : cmdR E m d l with
        | none => rw [ht] at h; cases h
        | some r =>
          rw [ht] at h
          cases r with
          | error e' => injection h with h; injection h with h; rw [← h]; exact h1 _ _ _ ht
          | ok q =>
            simp only at h
            cases hm : blockR E m d q.2 with
            | none => rw [hm] at h; cases h
            | some r => rw [hm] at h; injection h with h; exact h2 _ _ _ (by rw [hm, emap_err h])
/-- what command leaves -/
def CmdPost (w : World) (rb : Nat) (E a : Int) (res : Res CmdT) (e : Ending) (w' : World) : Prop :=
  w.grownBy w' (some rb) ∧ ∃ r : RCmd, e = .returned (.agg #[.string r.name, r.ag.val, r.ts.val, r.bl.val, .bool r.br, .int .i64 r.at_]) ∧
    ∃ t, CmdAt w' (Fresh w w') r t ∧ match res with
    | .ok (t', q) => Rdr w' rb q E 0 a ∧ t' = t
    | .error (e1, a1) => ∃ q, Rdr w' rb q E e1 a1
end Go.Proofs.YtgimgkjggaijoaaGreatDoor
namespace Go.Proofs.YtgimgkjggaijoaaGreatDoor
open Go.RowKit Pk Lx Sv

def CmdC (m : Nat) : Prop := ∀ (rb : Nat) (l : List Lex) (E a : Int) (d : Nat) (res : Res CmdT) (w : World), Rdr w rb l E 0 a → l.length ≤ 4000000 → d ≤ 9 → cmdR E m d l = some res → Calls Tryz.prog 17 #[.pointer (some ⟨rb, 0, none⟩), .int .i64 d] w (CmdPost w rb E a res)
/-- behind name, arguments and tests -/
def CmSt (E a : Int) (m d : Nat) (s : ByteArray) (us : List ArgT) (ts : List TestT) (i : Int) (l3 : List Lex) (res : Res CmdT) (wv av : Int) : Prop :=
  (wv = 0 ∧ av = a ∧ (isM 123 l3 = true → ∃ rB, blockR E m (d + 1) l3.tail = some rB ∧ res = rB.map fun p => (.mk s us ts p.1 true i, p.2)) ∧ (¬ isM 123 l3 = true → res = (mustR E 59 l3).map fun p => (.mk s us ts [] false i, p.2))) ∨ (wv ≠ 0 ∧ res = .error (wv, av))
theorem cmd_name {E : Int} {m d : Nat} {l : List Lex} {res : Res CmdT} (hm : cmdR E (m + 1) d l = some res) :
    (∀ s i q, nameR E d l = .ok ((s, i), q) → ∃ rA, argsR E m q = some rA ∧ (∀ ag l2, rA = .ok (ag, l2) → ∃ rT, testsR E m (d + 1) l2 = some rT ∧
        (∀ ts l3, rT = .ok (ts, l3) → (isM 123 l3 = true → ∃ rB, blockR E m (d + 1) l3.tail = some rB ∧ res = rB.map fun p => (.mk s ag ts p.1 true i, p.2)) ∧ (¬ isM 123 l3 = true → res = (mustR E 59 l3).map fun p => (.mk s ag ts [] false i, p.2))) ∧
        ∀ e, rT = .error e → res = .error e) ∧ ∀ e, rA = .error e → res = .error e) ∧
    ∀ e, nameR E d l = .error e → res = .error e := by
  unfold cmdR at hm
  refine ⟨fun s i q hn => ?_, fun e hn => ?_⟩
  · rw [hn] at hm
    simp only at hm
    cases ha : argsR E m q with
    | none => rw [ha] at hm; cases hm
    | some rA =>
      rw [ha] at hm
      refine ⟨rA, rfl, fun ag l2 h => ?_, fun e h => ?_⟩
      · subst h
        simp only at hm
        cases ht : testsR E m (d + 1) l2 with
        | none => rw [ht] at hm; cases hm
        | some rT =>
          rw [ht] at hm
          refine ⟨rT, rfl, fun ts l3 h => ?_, fun e h => ?_⟩
          · subst h
            simp only at hm
            refine ⟨fun h1 => ?_, fun h1 => ?_⟩
            · rw [if_pos h1] at hm
              cases hb : blockR E m (d + 1) l3.tail with
              | none => rw [hb] at hm; cases hm
              | some rB => rw [hb] at hm; injection hm with hm; exact ⟨rB, rfl, hm.symm⟩
            · rw [if_neg h1] at hm
              injection hm with hm
              exact hm.symm
          · subst h
            injection hm with hm
            exact hm.symm
      · subst h
        injection hm with hm
        exact hm.symm
  · rw [hn] at hm
    injection hm with hm
    exact hm.symm
/-- in the block: good, or behind an error -/
def BlSt (E a : Int) (m d : Nat) (s : ByteArray) (us : List ArgT) (ts : List TestT) (i : Int) (l : List Lex) (acc : List CmdT) (res : Res CmdT) (wv av : Int) : Prop :=
  (wv = 0 ∧ av = a ∧ ∃ m' r, m' ≤ m ∧ blockR E m' d l = some r ∧ r.map (fun p => (CmdT.mk s us ts (acc ++ p.1) true i, p.2)) = res) ∨ (wv ≠ 0 ∧ res = .error (wv, av))
theorem bl_end {E : Int} {m' d : Nat} {s : ByteArray} {us : List ArgT} {ts : List TestT} {i : Int} {l : List Lex} {acc : List CmdT} {res : Res CmdT} {r : Res (List CmdT)} (h : blockR E m' d l = some r) (hr : r.map (fun p => (CmdT.mk s us ts (acc ++ p.1) true i, p.2)) = res) (h1 : isM 125 l = true) : res = .ok (.mk s us ts acc true i, l.tail) := by
  cases m' with
  | zero => unfold blockR at h; cases h
  | succ m' =>
    unfold blockR at h
    rw [if_pos h1] at h
    injection h with h
    rw [← hr, ← h]
    show Except.ok (CmdT.mk s us ts (acc ++ []) true i, l.tail) = _
    rw [List.append_nil]
theorem bl_next {E a : Int} {m m' d : Nat} {s : ByteArray} {us : List ArgT} {ts : List TestT} {i : Int} {l : List Lex} {acc : List CmdT} {res : Res CmdT} {r : Res (List CmdT)} (hm : m' ≤ m) (h : blockR E m' d l = some r) (hr : r.map (fun p => (CmdT.mk s us ts (acc ++ p.1) true i, p.2)) = res) (h1 : ¬ isM 125 l = true) :
    ∃ rc, cmdR E m d l = some rc ∧ (∀ t l1, rc = .ok (t, l1) → BlSt E a m d s us ts i l1 (acc ++ [t]) res 0 a) ∧ ∀ e, rc = .error e → e.1 ≠ 0 ∧ res = .error e := by
  cases m' with
  | zero => unfold blockR at h; cases h
  | succ m' =>
    unfold blockR at h
    rw [if_neg h1] at h
    cases hc : cmdR E m' d l with
    | none => rw [hc] at h; cases h
    | some rc =>
      rw [hc] at h
      refine ⟨rc, (cmd_more E m' m (by omega)).1 _ _ _ hc, fun t l1 hh => ?_, fun e hh => ?_⟩
      · subst hh
        simp only at h
        cases hb : blockR E m' d l1 with
        | none => rw [hb] at h; cases h
        | some r' =>
          rw [hb] at h
          injection h with h
          refine .inl ⟨rfl, rfl, m', r', by omega, hb, ?_⟩
          rw [← hr, ← h]
          cases r' with
          | error e => rfl
          | ok p => show Except.ok (CmdT.mk s us ts (acc ++ [t] ++ p.1) true i, p.2) = Except.ok (CmdT.mk s us ts (acc ++ (t :: p.1)) true i, p.2); rw [List.append_assoc]; rfl
      · subst hh
        injection h with h
        refine ⟨(cmd_err m').1 _ _ _ hc, ?_⟩
        rw [← hr, ← h]; rfl
theorem cmdR_len {E : Int} {m d : Nat} {l : List Lex} {p} (h : cmdR E m d l = some (.ok p)) : p.2.length < l.length := by
  obtain ⟨r, k1, k2⟩ := (cmd_end E (max m (2 * l.length + 1))).1 d l (Nat.le_max_right _ _)
  have := (cmd_more E m _ (Nat.le_max_left m (2 * l.length + 1))).1 _ _ _ h
  rw [this] at k1
  injection k1 with k1
  exact k2 p k1.symm
theorem testsR_len' {E : Int} {m d : Nat} {l : List Lex} {p} (h : testsR E m d l = some (.ok p)) : p.2.length ≤ l.length := by
  obtain ⟨r, k1, k2⟩ := (tests_end E (max m (2 * l.length + 2))).2.1 d l (Nat.le_max_right _ _)
  have := (tests_more E m _ (Nat.le_max_left m (2 * l.length + 2))).2.1 _ _ _ h
  rw [this] at k1
  injection k1 with k1
  exact k2 p k1.symm
/-- the state behind a command of the block -/
theorem bl_state {w2 : World} {rb : Nat} {E a : Int} {m d : Nat} {s : ByteArray} {us : List ArgT} {ts : List TestT} {i : Int} {l0 : List Lex} {acc : List CmdT} {res : Res CmdT} {rc : Res CmdT} {t : CmdT} (hp : match rc with | .ok (t', q) => Rdr w2 rb q E 0 a ∧ t' = t | .error (e1, a1) => ∃ q, Rdr w2 rb q E e1 a1)
    (ht : cmdR E m d l0 = some rc)
    (h1 : ∀ t l1, rc = .ok (t, l1) → BlSt E a m d s us ts i l1 (acc ++ [t]) res 0 a) (h2 : ∀ e, rc = .error e → e.1 ≠ 0 ∧ res = .error e) :
    ∃ q wv av, Rdr w2 rb q E wv av ∧ (wv = 0 → q.length < l0.length) ∧ BlSt E a m d s us ts i q (acc ++ [t]) res wv av := by
  cases rc with
  | ok p =>
    obtain ⟨t', q⟩ := p
    obtain ⟨hr, rfl⟩ := hp
    exact ⟨q, 0, a, hr, fun _ => cmdR_len ht, h1 _ _ rfl⟩
  | error e =>
    obtain ⟨e1, a1⟩ := e
    obtain ⟨q, hr⟩ := hp
    obtain ⟨h3, h4⟩ := h2 _ rfl
    exact ⟨q, e1, a1, hr, fun h => absurd h h3, .inr ⟨h3, h4⟩⟩
/-- where the block stands -/
structure BlAt (w w0 : World) (rb : Nat) (wr : World) (s : ByteArray) (ag ts : SlV) (i : Int) (v : Value) (R : List RCmd) (acc : List CmdT) : Prop where
  box : wr.heap[w.heap.size]? = some (.cells #[.string s, ag.val, ts.val, v, .bool true, .int .i64 i] 46)
  lst : LsB cmdL 46 CmdAt w0.heap.size wr v R acc
  keep : ∀ g, g < w0.heap.size → g ≠ rb → g ≠ w.heap.size → wr.heap[g]? = w0.heap[g]?
  big : w0.heap.size ≤ wr.heap.size
  grown : w.grownBy wr (some rb)
theorem BlAt.move {w w0 wr w1 : World} {rb : Nat} {s : ByteArray} {ag ts : SlV} {i : Int} {v : Value} {R : List RCmd} {acc : List CmdT} (h : BlAt w w0 rb wr s ag ts i v R acc) (hrb : rb < w.heap.size) (hw : w.heap.size < w0.heap.size) (hg : wr.grownBy w1 (some rb)) : BlAt w w0 rb w1 s ag ts i v R acc :=
  ⟨(hg.block _ (lt_of_block h.box) (fun e => by injection e with e; omega)).trans h.box, h.lst.move cmdAt_keeps (by omega) hg, fun g h1 h2 h3 => (hg.block g (by have := h.big; omega) (fun e => by injection e with e; exact h2 e)).trans (h.keep g h1 h2 h3), Nat.le_trans h.big hg.size, grown_trans h.grown hg⟩
/-- a command more -/
theorem BlAt.put {w w0 wr W w6 : World} {rb : Nat} {s : ByteArray} {ag ts : SlV} {i : Int} {v v6 : Value} {R : List RCmd} {acc : List CmdT} {r : RCmd} {b : CmdT} (h : BlAt w w0 rb wr s ag ts i v R acc) (hrb : rb < w.heap.size) (hw : w.heap.size < w0.heap.size) (hg : wr.grownBy W (some rb)) (hat : CmdAt W (Fresh wr W) r b)
    (h6 : ownsG cmdL w6 w0.heap.size 46 v6 (R ++ [r])) (hg6 : W.grownBy w6 v.ownBlock) (hn : NewOwn W v v6) :
    w6.heap[w.heap.size]? = some (.cells #[.string s, ag.val, ts.val, v, .bool true, .int .i64 i] 46) ∧ BlAt w w0 rb (w6.setCell ⟨w.heap.size, 3, none⟩ v6) s ag ts i v6 (R ++ [r]) (acc ++ [b]) := by
  have hm := h.move hrb hw hg
  have hv := h.lst.lt
  have hbox := (hg6.block w.heap.size (lt_of_block hm.box) (fun e => by have := (hv _ e.symm).1; omega)).trans hm.box
  have hst := grownBy_set w6 w.heap.size 3 v6
  refine ⟨hbox, block_set w6 w.heap.size 3 v6 hbox, ?_, fun g h1 h2 h3 => ?_, ?_, ?_⟩
  · exact (h.lst.put cmdAt_keeps (b' := rb) (by omega) h.big hg hat h6 hg6 hn).move cmdAt_keeps hw hst
  · exact (hst.block g (by have := hm.big; have := hg6.size; omega) (fun e => by injection e with e; exact h3 e)).trans ((hg6.block g (by have := hm.big; omega) (fun e => by have := (hv _ e.symm).1; omega)).trans (hm.keep g h1 h2 h3))
  · exact Nat.le_trans hm.big (Nat.le_trans hg6.size hst.size)
  · exact grown_fresh (grown_own hm.grown hg6 fun k hk => by have := (hv k hk).1; omega) hst (Nat.le_refl _)
theorem BlAt.done {w w0 wr : World} {rb : Nat} {s : ByteArray} {p p' p3 : Option Addr} {n n' n3 c c' c3 : Nat} {i : Int} {R : List RCmd} {acc : List CmdT} {us : List ArgT} {tt : List TestT} (h : BlAt w w0 rb wr s ⟨p, n, c⟩ ⟨p', n', c'⟩ i (.slice p3 n3 c3) R acc) (hrb : rb < w.heap.size) (hw : w.heap.size < w0.heap.size)
    (ha : ArgsAt w0 (fun g => w.heap.size < g ∧ g < w0.heap.size) (.slice p n c) us) (ht : TestsAt w0 (fun g => w.heap.size < g ∧ g < w0.heap.size) (.slice p' n' c') tt) {w9 : World} (hg9 : wr.grownBy w9 (some w.heap.size)) :
    CmdAt w9 (Fresh w w9) ⟨s, ⟨p, n, c⟩, ⟨p', n', c'⟩, ⟨p3, n3, c3⟩, true, i⟩ (.mk s us tt acc true i) := by
  have hK : ∀ g, (w.heap.size < g ∧ g < w0.heap.size) → g < w0.heap.size → w9.heap[g]? = w0.heap[g]? := fun g hg h2 => (hg9.block g (by have := h.big; omega) (fun e => by injection e with e; omega)).trans (h.keep g h2 (by omega) (by omega))
  have hz : w0.heap.size ≤ w9.heap.size := Nat.le_trans h.big hg9.size
  have hY : ∀ g, (w.heap.size < g ∧ g < w0.heap.size) → Fresh w w9 g := fun g hg => ⟨by omega, by omega⟩
  obtain ⟨k1, k2⟩ := h.lst.done cmdAt_keeps
  have hB : ∀ g, (w0.heap.size ≤ g ∧ g < wr.heap.size) → g < wr.heap.size → w9.heap[g]? = wr.heap[g]? := fun g hg h2 => hg9.block g h2 (fun e => by injection e with e; omega)
  have hY2 : ∀ g, (w0.heap.size ≤ g ∧ g < wr.heap.size) → Fresh w w9 g := fun g hg => ⟨by omega, by have := hg9.size; omega⟩
  exact ⟨⟨rfl, rfl, rfl⟩, ha.keeps hK hz hY, ht.keeps hK hz hY, (CmdsAt.of k1 k2).keeps hB hg9.size hY2⟩
/-- what stands behind a command of the block, ahead of its append -/
theorem cm_next {w W6 wr w1 w2 : World} {rb : Nat} {s : ByteArray} {ag ts : SlV} {i : Int} {v : Value} {R : List RCmd} {acc : List CmdT} {r : RCmd} {t : CmdT} (hA : BlAt w W6 rb wr s ag ts i v R acc) (hrb : rb < w.heap.size) (hw : w.heap.size < W6.heap.size)
    (hb1 : Below wr.heap.size wr w1) (hg2 : w1.grownBy w2 (some rb)) (hat : CmdAt w2 (Fresh w1 w2) r t) :
    w2.cell? ⟨w.heap.size, 3, none⟩ = some v ∧ (w2.alloc (.cells (cmdL.enc r).toArray 46)).cell? ⟨w.heap.size, 3, none⟩ = some v ∧
    ownsG cmdL w2 W6.heap.size 46 v R ∧ ownsG cmdL (w2.alloc (.cells (cmdL.enc r).toArray 46)) W6.heap.size 46 v R ∧ W6.heap.size ≤ w2.heap.size ∧
    ∀ v6 w6, ownsG cmdL w6 W6.heap.size 46 v6 (R ++ [r]) → (w2.alloc (.cells (cmdL.enc r).toArray 46)).grownBy w6 v.ownBlock → NewOwn (w2.alloc (.cells (cmdL.enc r).toArray 46)) v v6 →
      w6.cell? ⟨w.heap.size, 3, none⟩ = some v ∧ w6.frozen? ⟨w.heap.size, 3, none⟩ = false ∧ BlAt w W6 rb (w6.setCell ⟨w.heap.size, 3, none⟩ v6) s ag ts i v6 (R ++ [r]) (acc ++ [t]) ∧
      ∀ l E wv av, Rdr w2 rb l E wv av → Rdr (w6.setCell ⟨w.heap.size, 3, none⟩ v6) rb l E wv av := by
  have hW2 := grown_trans (below_grown hb1 (some rb)) hg2
  have hA2 := hA.move hrb hw hW2
  have hal := (Below.refl w2.heap.size w2).alloc (Nat.le_refl _) (.cells (cmdL.enc r).toArray 46)
  have hWA := grown_trans hW2 (below_grown hal (some rb))
  have hAA := hA.move hrb hw hWA
  have hat2 := hat.keeps (w' := w2.alloc (.cells (cmdL.enc r).toArray 46)) (Y := Fresh wr (w2.alloc (.cells (cmdL.enc r).toArray 46))) (fun g _ hg => hal.block g hg) hal.size fun g hg => ⟨Nat.le_trans hb1.size hg.1, Nat.lt_of_lt_of_le hg.2 hal.size⟩
  refine ⟨(cell6 hA2.box).2.2.2.1, (cell6 hAA.box).2.2.2.1, hA2.lst.own, hAA.lst.own, hA2.big, fun v6 w6 h6 hg6 hn6 => ?_⟩
  obtain ⟨k1, k2⟩ := hA.put hrb hw hWA hat2 h6 hg6 hn6
  refine ⟨(cell6 k1).2.2.2.1, frozen_of_row w6 w.heap.size 3 _ _ k1, k2, fun l E wv av hr => ?_⟩
  exact ((hr.below hal).own hg6 fun k hk => by have := (hA.lst.lt k hk).1; omega).grown (grownBy_set w6 w.heap.size 3 v6) hrb trivial
/-- a command without a block -/
theorem cm_plain {w W4 w6 w9 : World} {rb : Nat} {s : ByteArray} {p p3 : Option Addr} {n n3 c c3 : Nat} {i : Int} {us : List ArgT} {ts : List TestT} (hrb : rb < w.heap.size)
    (ha : ArgsAt W4 (fun g => w.heap.size < g ∧ g < W4.heap.size) (.slice p n c) us) (ht : TestsAt W4 (fun g => w.heap.size < g ∧ g < W4.heap.size) (.slice p3 n3 c3) ts) (hg6 : W4.grownBy w6 (some rb)) (hg9 : w6.grownBy w9 (some w.heap.size)) :
    CmdAt w9 (Fresh w w9) ⟨s, ⟨p, n, c⟩, ⟨p3, n3, c3⟩, ⟨none, 0, 0⟩, false, i⟩ (.mk s us ts [] false i) := by
  have hK : ∀ g, (w.heap.size < g ∧ g < W4.heap.size) → g < W4.heap.size → w9.heap[g]? = W4.heap[g]? := fun g hX hg => (hg9.block g (Nat.lt_of_lt_of_le hg hg6.size) (fun e => by injection e with e; omega)).trans (hg6.block g hg (fun e => by injection e with e; omega))
  have hz := Nat.le_trans hg6.size hg9.size
  have hY : ∀ g, (w.heap.size < g ∧ g < W4.heap.size) → Fresh w w9 g := fun g hg => ⟨by omega, by omega⟩
  exact ⟨⟨rfl, rfl, rfl⟩, ha.keeps hK hz hY, ht.keeps hK hz hY, CmdsAt.nil _ _⟩
set_option maxHeartbeats 8000000 in
set_option maxRecDepth 100000 in
theorem cmd_of (m : Nat) (hC : CmdC m) : CmdC (m + 1) := by
  intro rb l E a d res w h hl hd hm
  have hrb := h.lt
  obtain ⟨hA, hB⟩ := cmd_name hm
  have hb0 := (Below.refl w.heap.size w).alloc (Nat.le_refl _) (.cells #[.string ⟨#[]⟩, .slice none 0 0, .slice none 0 0, .slice none 0 0, .bool false, .int .i64 0] 46)
  have HN := Lib.hid (name_any rb l E a d _ (h.below hb0))
  have hz0 := heap_alloc_new w (.cells #[.string ⟨#[]⟩, .slice none 0 0, .slice none 0 0, .slice none 0 0, .bool false, .int .i64 0] 46)
  have HC := Lib.hid hC
  clear hm hC
  go_enter Tryz.func17, Tryz.ntmps17
  go_wp2_with fail
  refine HN.out.mono ?_
  rintro e w1 ⟨hg1, s, i, rfl, hp1⟩
  have z1 := (hg1.block w.heap.size (by simp) (fun e => by injection e with e; omega)).trans hz0
  have z2 := block_set w1 w.heap.size 0 (.string s) z1
  have z3 := block_set _ w.heap.size 5 (.int .i64 i) z2
  have c1 := (cell6 z1).1
  have f1 := frozen_of_row w1 w.heap.size 0 _ _ z1
  have c2 := (cell6 (show _ = some (Obj.cells #[.string s, .slice none 0 0, .slice none 0 0, .slice none 0 0, .bool false, .int .i64 0] 46 (0, 0)) from z2)).2.2.2.2.2
  have f2 := frozen_of_row _ w.heap.size 5 _ _ z2
  go_wp2_with fail
  have gS := grown_trans (grownBy_set w1 w.heap.size 0 (.string s)) (grownBy_set _ w.heap.size 5 (.int .i64 i))
  have gW := grown_fresh (grown_trans (below_grown hb0 (some rb)) hg1) gS (Nat.le_refl _)
  have zW : ((w1.setCell ⟨w.heap.size, 0, none⟩ (.string s)).setCell ⟨w.heap.size, 5, none⟩ (.int .i64 i)).heap[w.heap.size]? = some (.cells #[.string s, .slice none 0 0, .slice none 0 0, .slice none 0 0, .bool false, .int .i64 i] 46) := z3
  have hst : ∃ (q : List Lex) (wv av : Int) (rA : Res (List ArgT)), Rdr w1 rb q E wv av ∧ (wv = 0 → q.length ≤ 4000000) ∧ ArSt E a m q [] rA wv av ∧
      (∀ ag l2, rA = .ok (ag, l2) → (l2.length ≤ 4000000 ∧ d + 1 ≤ 9) ∧ ∃ rT, testsR E m (d + 1) l2 = some rT ∧
        (∀ ts l3, rT = .ok (ts, l3) → (isM 123 l3 = true → ∃ rB, blockR E m (d + 1) l3.tail = some rB ∧ res = rB.map fun p => (.mk s ag ts p.1 true i, p.2)) ∧ (¬ isM 123 l3 = true → res = (mustR E 59 l3).map fun p => (.mk s ag ts [] false i, p.2))) ∧ ∀ e, rT = .error e → res = .error e) ∧
      ∀ e, rA = .error e → e.1 ≠ 0 ∧ res = .error e := by
    cases hn : nameR E d l with
    | ok p =>
      obtain ⟨⟨s', i'⟩, q⟩ := p
      rw [hn] at hp1
      obtain ⟨hr, he⟩ := hp1
      injection he with e1 e2
      subst e1; subst e2
      obtain ⟨rA, h1, h2, h3⟩ := hA _ _ _ hn
      have hq := nameR_len hn
      have hd8 : d ≤ 8 := by obtain ⟨_, _, _, _, h, _⟩ := nameR_ok hn; exact h
      simp only at hq
      refine ⟨q, 0, a, rA, hr, fun _ => by omega, .inl ⟨rfl, rfl, m, rA, Nat.le_refl _, h1, by cases rA <;> rfl⟩, fun ag l2 h => ⟨?_, h2 ag l2 h⟩, fun e h => ⟨?_, h3 e h⟩⟩
      · subst h; have := argsR_len h1; simp only at this; exact ⟨by omega, by omega⟩
      · subst h; exact argsR_err h1
    | error e =>
      obtain ⟨e1, a1⟩ := e
      rw [hn] at hp1
      obtain ⟨q, hr⟩ := hp1
      have hne := nameR_err hn
      refine ⟨q, e1, a1, .error (e1, a1), hr, fun h => absurd h hne, .inr ⟨hne, rfl⟩, fun ag l2 h => (by cases h), fun e h => ?_⟩
      injection h with h
      subst h
      exact ⟨hne, hB _ hn⟩
  obtain ⟨q, wv, av, rA, hr, hq, hS, hok, herr⟩ := hst
  have hrW := hr.grown gS hrb trivial
  clear hA hB HN hz0 hp1 z1 z2 z3 c1 f1 c2 f2 hr
  generalize (w1.setCell ⟨w.heap.size, 0, none⟩ (.string s)).setCell ⟨w.heap.size, 5, none⟩ (.int .i64 i) = W at *
  refine (args_any rb q E a wv av m rA W hrW hq hS).mono ?_
  rintro e w2 ⟨hg2, ⟨p, n, c⟩, he, us, hus, hpost⟩
  dsimp only [SlV.val] at he
  subst he
  have y1 := (hg2.block w.heap.size (lt_of_block zW) (fun e => by injection e with e; omega)).trans zW
  have c1 := (cell6 y1).2.1
  have f1 := frozen_of_row w2 w.heap.size 1 _ _ y1
  have y2 : (w2.setCell ⟨w.heap.size, 1, none⟩ (.slice p n c)).heap[w.heap.size]? = some (.cells #[.string s, .slice p n c, .slice none 0 0, .slice none 0 0, .bool false, .int .i64 i] 46) := block_set w2 w.heap.size 1 (.slice p n c) y1
  have hst2 : ∃ (q2 : List Lex) (wv2 av2 : Int) (rT : Res (List TestT)), Rdr w2 rb q2 E wv2 av2 ∧ (wv2 = 0 → q2.length ≤ 4000000 ∧ d + 1 ≤ 9) ∧ TsSt E a m (d + 1) q2 rT wv2 av2 ∧
      (∀ ts l3, rT = .ok (ts, l3) → l3.length ≤ 4000000 ∧ d + 1 ≤ 9 ∧ (isM 123 l3 = true → ∃ rB, blockR E m (d + 1) l3.tail = some rB ∧ res = rB.map fun p => (.mk s us ts p.1 true i, p.2)) ∧ (¬ isM 123 l3 = true → res = (mustR E 59 l3).map fun p => (.mk s us ts [] false i, p.2))) ∧ ∀ e, rT = .error e → e.1 ≠ 0 ∧ res = .error e := by
    cases rA with
    | ok p2 =>
      obtain ⟨ag, l2⟩ := p2
      obtain ⟨hr2, rfl⟩ := hpost
      obtain ⟨hl2, rT, h1, h2, h3⟩ := hok _ _ rfl
      refine ⟨l2, 0, a, rT, hr2, fun _ => hl2, .inl ⟨rfl, rfl, h1⟩, fun ts l3 h => ⟨?_, hl2.2, (h2 ts l3 h).1, (h2 ts l3 h).2⟩, fun e h => ⟨?_, h3 e h⟩⟩
      · subst h; have := testsR_len' h1; simp only at this; omega
      · subst h; exact (tests_err m).2.1 _ _ _ h1
    | error e =>
      obtain ⟨e1, a1⟩ := e
      obtain ⟨r, hr2⟩ := hpost
      obtain ⟨hne, hres⟩ := herr _ rfl
      exact ⟨r, e1, a1, .error (e1, a1), hr2, fun h => absurd h hne, .inr ⟨hne, rfl⟩, fun ts l3 h => (by cases h), fun e h => by injection h with h; rw [← h]; exact ⟨hne, hres⟩⟩
  obtain ⟨q2, wv2, av2, rT, hr2, hq2, hS2, hfin, hferr⟩ := hst2
  have gY := grownBy_set w2 w.heap.size 1 (.slice p n c)
  have hT2 := (testsC_any m).1 rb q2 E a wv2 av2 (d + 1) rT _ (hr2.grown gY hrb trivial) hq2 (by omega) hS2
  push_cast at hT2
  have HT2 := Lib.hid hT2
  have hWz := lt_of_block zW
  have g2 := grown_fresh (grown_trans gW hg2) gY (Nat.le_refl _)
  have hus2 : ArgsAt (w2.setCell ⟨w.heap.size, 1, none⟩ (.slice p n c)) (fun g => w.heap.size < g ∧ g < w2.heap.size) (.slice p n c) us := hus.keeps (fun g hX hg => gY.block g hg (fun e => by injection e with e; have := hX.1; omega)) gY.size fun g hX => ⟨Nat.lt_of_lt_of_le hWz hX.1, hX.2⟩
  clear hT2 hr2 hS2 hq2 hok herr hrW hS hpost hq y1 hus
  go_wp2_with fail
  refine HT2.out.mono ?_
  rintro e w3 ⟨hg3, ⟨p3, n3, c3⟩, he, ts, hts, hpost3⟩
  dsimp only [SlV.val] at he
  subst he
  have y3 := (hg3.block w.heap.size (lt_of_block y2) (fun e => by injection e with e; omega)).trans y2
  have cc3 := (cell6 y3).2.2.1
  have ff3 := frozen_of_row w3 w.heap.size 2 _ _ y3
  have y4 : (w3.setCell ⟨w.heap.size, 2, none⟩ (.slice p3 n3 c3)).heap[w.heap.size]? = some (.cells #[.string s, .slice p n c, .slice p3 n3 c3, .slice none 0 0, .bool false, .int .i64 i] 46) := block_set w3 w.heap.size 2 (.slice p3 n3 c3) y3
  have gZ := grownBy_set w3 w.heap.size 2 (.slice p3 n3 c3)
  have g4 := grown_fresh (grown_trans g2 hg3) gZ (Nat.le_refl _)
  have hz2 : (w2.setCell ⟨w.heap.size, 1, none⟩ (.slice p n c)).heap.size = w2.heap.size := by simp [World.setCell]
  have hA4 : ArgsAt (w3.setCell ⟨w.heap.size, 2, none⟩ (.slice p3 n3 c3)) (fun g => w.heap.size < g ∧ g < w3.heap.size) (.slice p n c) us := hus2.keeps (fun g hX hg => (gZ.block g (Nat.lt_of_lt_of_le hg hg3.size) (fun e => by injection e with e; omega)).trans (hg3.block g hg (fun e => by injection e with e; omega))) (Nat.le_trans hg3.size gZ.size) fun g hX => ⟨hX.1, by have := hg3.size; omega⟩
  have hT4 : TestsAt (w3.setCell ⟨w.heap.size, 2, none⟩ (.slice p3 n3 c3)) (fun g => w.heap.size < g ∧ g < w3.heap.size) (.slice p3 n3 c3) ts := hts.keeps (fun g hX hg => gZ.block g hg (fun e => by injection e with e; have := hX.1; have := hg2.size; omega)) gZ.size fun g hX => ⟨by have := hX.1; have := hg2.size; omega, hX.2⟩
  have hst3 : ∃ (q3 : List Lex) (wv3 av3 : Int), Rdr (w3.setCell ⟨w.heap.size, 2, none⟩ (.slice p3 n3 c3)) rb q3 E wv3 av3 ∧ (wv3 = 0 → q3.length ≤ 4000000 ∧ d + 1 ≤ 9) ∧ CmSt E a m d s us ts i q3 res wv3 av3 := by
    cases rT with
    | ok p2 =>
      obtain ⟨tt, l3⟩ := p2
      obtain ⟨hr3, rfl⟩ := hpost3
      obtain ⟨k1, k2, k3, k4⟩ := hfin _ _ rfl
      exact ⟨l3, 0, a, hr3.grown gZ hrb trivial, fun _ => ⟨k1, k2⟩, .inl ⟨rfl, rfl, k3, k4⟩⟩
    | error e =>
      obtain ⟨e1, a1⟩ := e
      obtain ⟨r, hr3⟩ := hpost3
      obtain ⟨hne, hres⟩ := hferr _ rfl
      exact ⟨r, e1, a1, hr3.grown gZ hrb trivial, fun h => absurd h hne, .inr ⟨hne, hres⟩⟩
  obtain ⟨q3, wv3, av3, hr3, hq3, hS3⟩ := hst3
  have hz3 : (w3.setCell ⟨w.heap.size, 2, none⟩ (.slice p3 n3 c3)).heap.size = w3.heap.size := by simp [World.setCell]
  have hw3 : w.heap.size < w3.heap.size := by have := lt_of_block y4; omega
  clear HT2 hus2 hts hpost3 hfin hferr hg3 gZ g2 gY hg2 hz2 gW gS hg1 zW y2 hb0 hWz
  go_wp2_with fail
  generalize w3.setCell ⟨w.heap.size, 2, none⟩ (.slice p3 n3 c3) = W4 at *
  rw [← hz3] at hA4 hT4 hw3
  rcases hS3 with ⟨rfl, rfl, hyes, hno⟩ | ⟨hne, rfl⟩
  · obtain ⟨hq3l, hd9⟩ := hq3 rfl
    by_cases h123 : isM 123 q3 = true
    · obtain ⟨rB, hB, hres⟩ := hyes h123
      cases q3 with
      | nil => cases h123
      | cons y r =>
        rw [List.length_cons] at hq3l
        rw [List.tail_cons] at hB
        refine (mark_yes rb y r E av3 ⟨#[123]⟩ 123 rfl W4 hr3 h123).mono ?_
        rintro e w5 ⟨rfl, hr5, hg5⟩
        have y5 := (hg5.block w.heap.size (lt_of_block y4) (fun e => by injection e with e; omega)).trans y4
        have c5 := (cell6 y5).2.2.2.2.1
        have f5 := frozen_of_row w5 w.heap.size 4 _ _ y5
        have y6 : (w5.setCell ⟨w.heap.size, 4, none⟩ (.bool true)).heap[w.heap.size]? = some (.cells #[.string s, .slice p n c, .slice p3 n3 c3, .slice none 0 0, .bool true, .int .i64 i] 46) := block_set w5 w.heap.size 4 (.bool true) y5
        have gV := grownBy_set w5 w.heap.size 4 (.bool true)
        have g6 := grown_fresh (grown_trans g4 hg5) gV (Nat.le_refl _)
        have hz45 : W4.heap.size ≤ (w5.setCell ⟨w.heap.size, 4, none⟩ (.bool true)).heap.size := Nat.le_trans hg5.size gV.size
        have hK : ∀ g, (w.heap.size < g ∧ g < W4.heap.size) → g < W4.heap.size → (w5.setCell ⟨w.heap.size, 4, none⟩ (.bool true)).heap[g]? = W4.heap[g]? := fun g hX hg => (gV.block g (Nat.lt_of_lt_of_le hg hg5.size) (fun e => by injection e with e; omega)).trans (hg5.block g hg (fun e => by injection e with e; omega))
        have hA6 : ArgsAt (w5.setCell ⟨w.heap.size, 4, none⟩ (.bool true)) (fun g => w.heap.size < g ∧ g < (w5.setCell ⟨w.heap.size, 4, none⟩ (.bool true)).heap.size) (.slice p n c) us := hA4.keeps hK hz45 fun g hX => ⟨hX.1, by omega⟩
        have hT6 : TestsAt (w5.setCell ⟨w.heap.size, 4, none⟩ (.bool true)) (fun g => w.heap.size < g ∧ g < (w5.setCell ⟨w.heap.size, 4, none⟩ (.bool true)).heap.size) (.slice p3 n3 c3) ts := hT4.keeps hK hz45 fun g hX => ⟨hX.1, by omega⟩
        have hr6 := hr5.grown gV hrb trivial
        have hw6 : w.heap.size < (w5.setCell ⟨w.heap.size, 4, none⟩ (.bool true)).heap.size := lt_of_block y6
        have hst : BlSt E av3 m (d + 1) s us ts i r [] res 0 av3 := .inl ⟨rfl, rfl, m, rB, Nat.le_refl _, hB, by rw [hres]; rfl⟩
        clear hyes hno hres hB h123 hr3 hr5 gV hg5 hz45 hK hA4 hT4 g4 y4 hz3 hw3 hq3
        go_wp2_with fail
        generalize w5.setCell ⟨w.heap.size, 4, none⟩ (.bool true) = W6 at *
        go_loopw [] (fun wr => ∃ (l' : List Lex) (R : List RCmd) (acc : List CmdT) (v : Value) (wv av : Int), BlAt w W6 rb wr s ⟨p, n, c⟩ ⟨p3, n3, c3⟩ i v R acc ∧ Rdr wr rb l' E wv av ∧ (wv = 0 → l'.length + R.length ≤ 4000000) ∧ BlSt E av3 m (d + 1) s us ts i l' acc res wv av) (fun wr => mz wr rb)
        case atStart => exact ⟨r, [], [], .slice none 0 0, 0, av3, ⟨y6, LsB.nil _ _ _ _ _, fun _ _ _ _ => rfl, Nat.le_refl _, g6⟩, hr6, fun _ => by simp; omega, hst⟩
        case round =>
          obtain ⟨l', R, acc, v, wv, av, hA, hR, hlen, hS⟩ := hrel
          clear hst hr6 g6 y6
          obtain ⟨-, -, k2, -⟩ := (show RdrV wr rb _ E wv av from hR.choose_spec.1).cells
          rcases hS with ⟨rfl, rfl, m', rr, hm', hbr, hres⟩ | ⟨hw0, rfl⟩
          · have hlen := hlen rfl
            have hmz := mz_good hR
            by_cases h125 : isM 125 l' = true
            · have hend := bl_end hbr hres h125
              cases l' with
              | nil => cases h125
              | cons y q =>
                have HM := Lib.hid (mark_yes rb y q E av ⟨#[125]⟩ 125 rfl wr hR h125)
                obtain ⟨pv, nv, cv, rfl⟩ := own_slice hA.lst.own
                clear hbr hres h125
                go_wp2_with fail
                refine HM.out.mono ?_
                rintro e w7 ⟨rfl, hr7, hg7⟩
                have hA7 := hA.move hrb hw6 hg7
                have yb : w7.heap[w.heap.size]? = some (.cells #[.string s, .slice p n c, .slice p3 n3 c3, .slice pv nv cv, .bool true, .int .i64 i] 46) := hA7.box
                obtain ⟨t0, t1, t2, t3, t4, t5⟩ := cell6 yb
                go_wp2_with (refine store_agg rfl 46 (.tmp 4) (.tmp 47) rfl w.heap.size #[.string s, .slice p n c, .slice p3 n3 c3, .slice pv nv cv, .bool true, .int .i64 i] rfl rfl _ _ yb (by kernel_rfl) rfl rfl ?_; intro w9 hw9 hg9; obtain ⟨s0, s1, s2, s3, s4, s5⟩ := cell6 hw9)
                (try simp only [Exit.inBlock, Exit.then])
                refine bodyPost_ret (v := (.agg #[.string s, .slice p n c, .slice p3 n3 c3, .slice pv nv cv, .bool true, .int .i64 i])) (by simp [results, Tryz.results17, go_sem, *]) rfl ?_
                refine ⟨grown_fresh hA7.grown hg9 (Nat.le_refl _), ⟨s, ⟨p, n, c⟩, ⟨p3, n3, c3⟩, ⟨pv, nv, cv⟩, true, i⟩, rfl, _, hA7.done hrb hw6 hA6 hT6 hg9, ?_⟩
                rw [hend]
                exact ⟨hr7.grown hg9 hrb trivial, rfl⟩
            · obtain ⟨rc, hc, hok, herr⟩ := bl_next (a := av) hm' hbr hres h125
              have HM := Lib.hid (mark_no rb l' E 0 av ⟨#[125]⟩ 125 rfl wr hR (fun _ => by simpa using h125))
              clear hbr hres
              go_wp2_with fail
              refine HM.out.mono ?_
              rintro e w1 ⟨rfl, hb1⟩
              have hCC := fun W (hb : Below wr.heap.size wr W) => HC.out rb l' E av (d + 1) rc W (hR.below hb) (by omega) hd9 hc
              push_cast at hCC
              have HCC := Lib.hid hCC
              have HNX := Lib.hid (fun (w1 w2 : World) (r : RCmd) (t : CmdT) hb1 hg2 hat => cm_next (w1 := w1) (w2 := w2) (r := r) (t := t) hA hrb hw6 hb1 hg2 hat)
              obtain ⟨pv, nv, cv, rfl⟩ := own_slice hA.lst.own
              have k3 := cell_later hb1 (cell6 hA.box).2.2.2.1
              have hwd : IntKind.i64.wrap ((d : Int) + 1) = (d : Int) + 1 := w64 rfl (by omega) (by omega)
              clear hCC
              go_wp2_with fail
              go_region_law (first
                | (refine step_n (by rfl) (.tmp 39) (.tmp 44) slC (by rfl) W6.heap.size _ R (by rfl) hOA ⟨_, 0, none⟩ [⟨rn, ⟨pa, na, ca⟩, ⟨pt, nt, ct⟩, ⟨pb, nb, cb⟩, rbr, ra⟩] 1 1 (by rfl) rfl (cells_at _ _ (by simp) _ _) (by omega) (by omega) (by simp; omega) ?_; intro v6 w6 h6 hg6 hn6; obtain ⟨p6, n6, c6, rfl⟩ := own_slice h6; obtain ⟨kc6, kf6, hB6, hR6⟩ := HFin.out _ w6 h6 hg6 hn6; clear hg6 h6 hn6)
                | (go_simp; go_at_call 17; (with_reducible refine (HCC.out _ (by first | exact hb1 | exact hb1.drew)).mono ?_); rintro e w2 ⟨hg2, ⟨rn, ⟨pa, na, ca⟩, ⟨pt, nt, ct⟩, ⟨pb, nb, cb⟩, rbr, ra⟩, he, tt, hat, hmatch⟩; dsimp only [SlV.val] at he; subst he; (obtain ⟨kA, kB, hO, hOA, hbig, hFin⟩ := HNX.out _ w2 _ tt (by first | exact hb1 | exact hb1.drew) hg2 hat); (replace kB : (w2.alloc (.cells #[.string rn, .slice pa na ca, .slice pt nt ct, .slice pb nb cb, .bool rbr, .int .i64 ra] 46)).cell? ⟨w.heap.size, 3, none⟩ = some (.slice pv nv cv) := kB); (have HFin := Lib.hid hFin); clear hFin)
                | fail)
              all_goals
                obtain ⟨q5, wv5, av5, hr5, hq5, hst5⟩ := bl_state hmatch hc hok herr
                have hr6 := hR6 _ _ _ _ hr5
                go_wp2_with fail
                go_roundw
                case rel => exact ⟨q5, _, _, _, wv5, av5, hB6, hr6, fun h => by have := hq5 h; rw [List.length_append, List.length_singleton]; omega, hst5⟩
                case measure =>
                  by_cases hw5 : wv5 = 0
                  · subst hw5
                    rw [hmz, mz_good hr6]
                    have := hq5 rfl
                    omega
                  · rw [hmz, mz_bad hr6 hw5]; omega
          · have k7 : (wv == 0) = false := beq_eq_false_iff_ne.2 hw0
            obtain ⟨pv, nv, cv, rfl⟩ := own_slice hA.lst.own
            have yb : wr.heap[w.heap.size]? = some (.cells #[.string s, .slice p n c, .slice p3 n3 c3, .slice pv nv cv, .bool true, .int .i64 i] 46) := hA.box
            obtain ⟨t0, t1, t2, t3, t4, t5⟩ := cell6 yb
            go_wp2_with (refine store_agg rfl 46 (.tmp 4) (.tmp 47) rfl w.heap.size #[.string s, .slice p n c, .slice p3 n3 c3, .slice pv nv cv, .bool true, .int .i64 i] rfl rfl _ _ yb (by kernel_rfl) rfl rfl ?_; intro w9 hw9 hg9; obtain ⟨s0, s1, s2, s3, s4, s5⟩ := cell6 hw9)
            (try simp only [Exit.inBlock, Exit.then])
            refine bodyPost_ret (v := (.agg #[.string s, .slice p n c, .slice p3 n3 c3, .slice pv nv cv, .bool true, .int .i64 i])) (by simp [results, Tryz.results17, go_sem, *]) rfl ?_
            refine ⟨grown_fresh hA.grown hg9 (Nat.le_refl _), ⟨s, ⟨p, n, c⟩, ⟨p3, n3, c3⟩, ⟨pv, nv, cv⟩, true, i⟩, rfl, _, hA.done hrb hw6 hA6 hT6 hg9, ?_⟩
            exact ⟨l', hR.grown hg9 hrb trivial⟩
    · have hres := hno h123
      refine (mark_no rb q3 E 0 av3 ⟨#[123]⟩ 123 rfl W4 hr3 (fun _ => by simpa using h123)).mono ?_
      rintro e w5 ⟨rfl, hb5⟩
      clear hyes hno
      go_wp2_with fail
      by_cases h59 : isM 59 q3 = true
      · unfold mustR at hres
        rw [if_pos h59] at hres
        cases q3 with
        | nil => cases h59
        | cons y r =>
          refine (must_yes rb y r E av3 ⟨#[59]⟩ 59 rfl w5 (hr3.below hb5) h59).mono ?_
          rintro e w6 ⟨rfl, hr6, hg6⟩
          have hg7 := grown_trans (below_grown hb5 (some rb)) hg6
          have yb := (hg7.block w.heap.size (lt_of_block y4) (fun e => by injection e with e; omega)).trans y4
          obtain ⟨t0, t1, t2, t3, t4, t5⟩ := cell6 yb
          go_wp2_with (refine store_agg rfl 46 (.tmp 4) (.tmp 26) rfl w.heap.size #[.string s, .slice p n c, .slice p3 n3 c3, .slice none 0 0, .bool false, .int .i64 i] rfl rfl _ _ yb (by kernel_rfl) rfl rfl ?_; intro w9 hw9 hg9; obtain ⟨s0, s1, s2, s3, s4, s5⟩ := cell6 hw9)
          (try simp only [Exit.inBlock, Exit.then])
          refine bodyPost_ret (v := (.agg #[.string s, .slice p n c, .slice p3 n3 c3, .slice none 0 0, .bool false, .int .i64 i])) (by simp [results, Tryz.results17, go_sem, *]) rfl ?_
          refine ⟨grown_fresh (grown_trans g4 hg7) hg9 (Nat.le_refl _), ⟨s, ⟨p, n, c⟩, ⟨p3, n3, c3⟩, ⟨none, 0, 0⟩, false, i⟩, rfl, _, cm_plain hrb hA4 hT4 hg7 hg9, ?_⟩
          rw [hres]
          exact ⟨hr6.grown hg9 hrb trivial, rfl⟩
      · unfold mustR at hres
        rw [if_neg h59] at hres
        refine (must_no rb q3 E 0 av3 ⟨#[59]⟩ 59 rfl w5 (hr3.below hb5) (fun _ => by simpa using h59)).mono ?_
        rintro e w6 ⟨rfl, hr6, hg6⟩
        have hg7 := grown_trans (below_grown hb5 (some rb)) hg6
        have yb := (hg7.block w.heap.size (lt_of_block y4) (fun e => by injection e with e; omega)).trans y4
        obtain ⟨t0, t1, t2, t3, t4, t5⟩ := cell6 yb
        go_wp2_with (refine store_agg rfl 46 (.tmp 4) (.tmp 26) rfl w.heap.size #[.string s, .slice p n c, .slice p3 n3 c3, .slice none 0 0, .bool false, .int .i64 i] rfl rfl _ _ yb (by kernel_rfl) rfl rfl ?_; intro w9 hw9 hg9; obtain ⟨s0, s1, s2, s3, s4, s5⟩ := cell6 hw9)
        (try simp only [Exit.inBlock, Exit.then])
        refine bodyPost_ret (v := (.agg #[.string s, .slice p n c, .slice p3 n3 c3, .slice none 0 0, .bool false, .int .i64 i])) (by simp [results, Tryz.results17, go_sem, *]) rfl ?_
        refine ⟨grown_fresh (grown_trans g4 hg7) hg9 (Nat.le_refl _), ⟨s, ⟨p, n, c⟩, ⟨p3, n3, c3⟩, ⟨none, 0, 0⟩, false, i⟩, rfl, _, cm_plain hrb hA4 hT4 hg7 hg9, ?_⟩
        rw [hres]
        exact ⟨q3, hr6.grown hg9 hrb trivial⟩
  · refine (mark_no rb q3 E wv3 av3 ⟨#[123]⟩ 123 rfl W4 hr3 (fun h => absurd h hne)).mono ?_
    rintro e w5 ⟨rfl, hb5⟩
    go_wp2_with fail
    refine (must_no rb q3 E wv3 av3 ⟨#[59]⟩ 59 rfl w5 (hr3.below hb5) (fun h => absurd h hne)).mono ?_
    rintro e w6 ⟨rfl, hr6, hg6⟩
    have e1 : errE wv3 2 = wv3 := if_neg hne
    have e2 : errP wv3 av3 (atL E q3) = av3 := if_neg hne
    rw [e1, e2] at hr6
    have hg7 := grown_trans (below_grown hb5 (some rb)) hg6
    clear e1 e2
    have yb := (hg7.block w.heap.size (lt_of_block y4) (fun e => by injection e with e; omega)).trans y4
    obtain ⟨t0, t1, t2, t3, t4, t5⟩ := cell6 yb
    go_wp2_with (refine store_agg rfl 46 (.tmp 4) (.tmp 26) rfl w.heap.size #[.string s, .slice p n c, .slice p3 n3 c3, .slice none 0 0, .bool false, .int .i64 i] rfl rfl _ _ yb (by kernel_rfl) rfl rfl ?_; intro w9 hw9 hg9; obtain ⟨s0, s1, s2, s3, s4, s5⟩ := cell6 hw9)
    (try simp only [Exit.inBlock, Exit.then])
    refine bodyPost_ret (v := (.agg #[.string s, .slice p n c, .slice p3 n3 c3, .slice none 0 0, .bool false, .int .i64 i])) (by simp [results, Tryz.results17, go_sem, *]) rfl ?_
    refine ⟨grown_fresh (grown_trans g4 hg7) hg9 (Nat.le_refl _), ⟨s, ⟨p, n, c⟩, ⟨p3, n3, c3⟩, ⟨none, 0, 0⟩, false, i⟩, rfl, _, cm_plain hrb hA4 hT4 hg7 hg9, ?_⟩
    exact ⟨q3, hr6.grown hg9 hrb trivial⟩
theorem cmdC_any : ∀ m, CmdC m
  | 0 => fun rb l E a d res w h hl hd hm => by unfold cmdR at hm; cases hm
  | m + 1 => cmd_of m (cmdC_any m)
end Go.Proofs.YtgimgkjggaijoaaGreatDoor
namespace Go.Proofs.YtgimgkjggaijoaaGreatDoor
open Go.RowKit Pk Lx Sv

/-- how a script goes on -/
def PaSt (E : Int) (l : List Lex) (acc : List CmdT) (res : Except (Int × Int) (List CmdT)) (wv av : Int) : Prop :=
  (wv = 0 ∧ av = 0 ∧ ∃ m r, parseR E m l = some r ∧ r.map (fun p => acc ++ p) = res) ∨ (wv ≠ 0 ∧ res = .error (wv, av))
theorem pa_end {E : Int} {m : Nat} {acc : List CmdT} {res r : Except (Int × Int) (List CmdT)} (h : parseR E m [] = some r) (hr : r.map (fun p => acc ++ p) = res) : res = .ok acc := by
  cases m with
  | zero => cases h
  | succ m =>
    injection h with h
    rw [← hr, ← h]
    show Except.ok (acc ++ []) = _
    rw [List.append_nil]
theorem pa_next {E : Int} {m : Nat} {x : Lex} {q : List Lex} {acc : List CmdT} {res r : Except (Int × Int) (List CmdT)} (h : parseR E m (x :: q) = some r) (hr : r.map (fun p => acc ++ p) = res) :
    ∃ m rc, cmdR E m 0 (x :: q) = some rc ∧ (∀ t l1, rc = .ok (t, l1) → PaSt E l1 (acc ++ [t]) res 0 0) ∧ ∀ e, rc = .error e → e.1 ≠ 0 ∧ res = .error e := by
  cases m with
  | zero => cases h
  | succ m =>
    unfold parseR at h
    cases hc : cmdR E m 0 (x :: q) with
    | none => rw [hc] at h; cases h
    | some rc =>
      rw [hc] at h
      refine ⟨m, rc, hc, fun t l1 hh => ?_, fun e hh => ?_⟩
      · subst hh
        simp only at h
        cases hp : parseR E m l1 with
        | none => rw [hp] at h; cases h
        | some r' =>
          rw [hp] at h
          injection h with h
          refine .inl ⟨rfl, rfl, m, r', hp, ?_⟩
          rw [← hr, ← h]
          cases r' with
          | error e => rfl
          | ok p => show Except.ok (acc ++ [t] ++ p) = Except.ok (acc ++ (t :: p)); rw [List.append_assoc]; rfl
      · subst hh
        injection h with h
        refine ⟨(cmd_err m).1 _ _ _ hc, ?_⟩
        rw [← hr, ← h]; rfl
theorem pa_state {w2 : World} {rb : Nat} {E : Int} {m : Nat} {l0 : List Lex} {acc : List CmdT} {res : Except (Int × Int) (List CmdT)} {rc : Res CmdT} {t : CmdT} (hp : match rc with | .ok (t', q) => Rdr w2 rb q E 0 0 ∧ t' = t | .error (e1, a1) => ∃ q, Rdr w2 rb q E e1 a1)
    (ht : cmdR E m 0 l0 = some rc) (h1 : ∀ t l1, rc = .ok (t, l1) → PaSt E l1 (acc ++ [t]) res 0 0) (h2 : ∀ e, rc = .error e → e.1 ≠ 0 ∧ res = .error e) :
    ∃ q wv av, Rdr w2 rb q E wv av ∧ (wv = 0 → q.length < l0.length) ∧ PaSt E q (acc ++ [t]) res wv av := by
  cases rc with
  | ok p =>
    obtain ⟨t', q⟩ := p
    obtain ⟨hr, rfl⟩ := hp
    exact ⟨q, 0, 0, hr, fun _ => cmdR_len ht, h1 _ _ rfl⟩
  | error e =>
    obtain ⟨e1, a1⟩ := e
    obtain ⟨q, hr⟩ := hp
    obtain ⟨h3, h4⟩ := h2 _ rfl
    exact ⟨q, e1, a1, hr, fun h => absurd h h3, .inr ⟨h3, h4⟩⟩
/-- what Parse leaves -/
def ParsePost (w : World) (r : Except (Int × Int) (List CmdT)) (e : Ending) (w' : World) : Prop :=
  Below w.heap.size w w' ∧ match r with
  | .ok a => ∃ sl : SlV, e = .returned (.tuple #[sl.val, .int .i64 0, .int .i64 0]) ∧ CmdsAt w' (Fresh w w') sl.val a
  | .error (e1, a1) => e1 ≠ 0 ∧ e = .returned (.tuple #[.slice none 0 0, .int .i64 e1, .int .i64 a1])
theorem parse_bad (s : ByteArray) (ts : List (Tok × Nat)) (k : Nat) (h : Run s.data.toList 0 ts (some k)) (w : World) (hw : LW w) (hs : s.size ≤ 5000000) :
    Calls Tryz.prog 9 #[.string s] w (ParsePost w (.error (2, k))) := by
  have HS := Lib.hid (scan_bad s ts k h w hw hs)
  clear h
  go_enter Tryz.func9, Tryz.ntmps9
  go_wp2_with fail
  refine HS.out.mono ?_
  rintro e w1 ⟨rfl, hb1⟩
  go_wp2_with fail
  go_ret3
  exact ⟨hb1, by decide, rfl⟩
/-- where the scripts' commands are gathered -/
def PaNext (W : World) (rb : Nat) (E : Int) (res : Except (Int × Int) (List CmdT)) (v : Value) (wr : World) : Prop :=
  ∃ (l : List Lex) (R : List RCmd) (acc : List CmdT) (wv av : Int), LsAt cmdL 46 CmdAt W rb wr v R acc ∧ Rdr wr rb l E wv av ∧ (wv = 0 → l.length + R.length ≤ 4000000) ∧ PaSt E l acc res wv av
set_option maxHeartbeats 8000000 in
set_option maxRecDepth 100000 in
theorem parse_of (s : ByteArray) (ts : List (Tok × Nat)) (m : Nat) (res : Except (Int × Int) (List CmdT)) (h : Run s.data.toList 0 ts none) (hl : ts.length ≤ 4000000) (hp : parseR (s.size : Nat) m (ts.map lexOf) = some res) (w : World) (hw : LW w) (hs : s.size ≤ 5000000) :
    Calls Tryz.prog 9 #[.string s] w (ParsePost w res) := by
  have HS := Lib.hid (scan_ok s ts h w hw hs)
  have hst0 : PaSt (s.size : Nat) (ts.map lexOf) [] res 0 0 := .inl ⟨rfl, rfl, m, res, hp, by cases res <;> rfl⟩
  clear h hp
  go_enter Tryz.func9, Tryz.ntmps9
  go_wp2_with fail
  refine HS.out.mono ?_
  rintro e w1 ⟨p, c, rfl, hse, hb1⟩
  have hrd : ReadsR lexLay w1 (· < w1.heap.size) (.slice p ts.length c) (ts.map lexOf) := by
    obtain ⟨p', c', he, h2, h3⟩ := hse.form
    rw [List.length_map] at he
    injection he with e1 e2 e3
    subst e1; subst e3
    refine ⟨p, c, by rw [List.length_map], h2, ?_⟩
    rcases h3 with h3 | ⟨g, rfl, h4, h5⟩
    · exact .inl h3
    · exact .inr ⟨g, 0, rfl, h4, h4, fun j hj i u hu => by rw [Nat.zero_add]; exact h5 j hj i u hu⟩
  have hbA := (Below.refl w1.heap.size w1).alloc (Nat.le_refl _) (.cells #[.slice p ts.length c, .int .i64 s.size, .int .i64 0, .int .i64 0] 53)
  have hR0 : Rdr (w1.alloc (.cells #[.slice p ts.length c, .int .i64 s.size, .int .i64 0, .int .i64 0] 53)) w1.heap.size (ts.map lexOf) (s.size : Nat) 0 0 :=
    ⟨_, heap_alloc_new w1 _, hrd.keeps (fun g _ hg => hbA.block g hg) hbA.size fun _ h => h⟩
  have hbW := hb1.trans (hbA.mono hb1.size)
  have hsz := hb1.size
  go_wp2_with fail
  have h0 : PaNext (w1.alloc (.cells #[.slice p ts.length c, .int .i64 s.size, .int .i64 0, .int .i64 0] 53)) w1.heap.size (s.size : Nat) res (.slice none 0 0) (w1.alloc (.cells #[.slice p ts.length c, .int .i64 s.size, .int .i64 0, .int .i64 0] 53)) :=
    ⟨ts.map lexOf, [], [], 0, 0, ⟨ownsG.nil _ _ _ _, Elems.nil _ _ _, below_grown (Below.refl _ _) _⟩, hR0, fun _ => by rw [List.length_map]; simpa using hl, hst0⟩
  have hrb := hR0.lt
  clear hst0 hrd hse hR0 hbA HS hb1
  generalize w1.alloc (.cells #[.slice p ts.length c, .int .i64 s.size, .int .i64 0, .int .i64 0] 53) = W at *
  generalize hrbe : w1.heap.size = rb at *
  clear hrbe
  go_loopw [9] (fun v wr => PaNext W rb (s.size : Nat) res v wr) (fun _ wr => mz wr rb)
  case atStart => exact h0
  case round =>
    clear h0
    obtain ⟨l', R, acc, wv, av, hA, hR, hlen, hS⟩ := hrel
    have hcls := hR
    obtain ⟨u, hu, hrd⟩ := hcls
    obtain ⟨k0, -, k2, k4⟩ := hu.cells
    have hfin : ∀ w9, wr.grownBy w9 (some rb) → Below w.heap.size w w9 := fun w9 hg => below_fresh hbW (grown_trans hA.grown hg) hsz
    rcases hS with ⟨rfl, rfl, m', r', hpr, hres⟩ | ⟨hw0, rfl⟩
    · have hlen := hlen rfl
      have hmz := mz_good hR
      cases l' with
      | nil =>
        obtain rfl := pa_end hpr hres
        obtain ⟨pu, cu, rfl⟩ := reads_nil hrd
        obtain ⟨pv, nv, cv, rfl⟩ := own_slice hA.own
        go_wp2_with fail
        go_ret3
        obtain ⟨d1, d2⟩ := hA.done cmdAt_keeps
        have hz := hbW.size
        exact ⟨hfin _ (below_grown (Below.refl _ _) _), ⟨pv, nv, cv⟩, rfl, (CmdsAt.of d1 d2).keeps (fun _ _ _ => rfl) (Nat.le_refl _) fun g hg => ⟨Nat.le_trans hz hg.1, hg.2⟩⟩
      | cons x q =>
        obtain ⟨m2, rc, hc, hok, herr⟩ := pa_next hpr hres
        obtain ⟨g, o, cu, rfl, -, -, -, -, -⟩ := reads_cons hrd
        rw [List.length_cons] at hlen hmz
        have q1 : decide ((0 : Int) < ((q.length : Int) + 1)) = true := decide_eq_true (by omega)
        have HC := Lib.hid (cmdC_any m2 rb (x :: q) (s.size : Nat) 0 0 rc wr hR (by rw [List.length_cons]; omega) (by omega) hc)
        have hov := hA.past hrb
        clear hpr hres
        go_wp2_with fail
        refine HC.out.mono ?_
        rintro e w2 ⟨hg2, ⟨rn, ⟨pa, na, ca⟩, ⟨pt, nt, ct⟩, ⟨pb, nb, cb⟩, rbr, ra⟩, he, tt, hat, hmatch⟩
        dsimp only [SlV.val] at he
        subst he
        have hA2 := hA.move cmdAt_keeps hrb hg2
        have hal := (Below.refl w2.heap.size w2).alloc (Nat.le_refl _) (.cells #[.string rn, .slice pa na ca, .slice pt nt ct, .slice pb nb cb, .bool rbr, .int .i64 ra] 46)
        have hW := grown_trans hg2 (below_grown hal (some rb))
        have hat2 : CmdAt (w2.alloc (.cells #[.string rn, .slice pa na ca, .slice pt nt ct, .slice pb nb cb, .bool rbr, .int .i64 ra] 46)) (Fresh wr (w2.alloc (.cells #[.string rn, .slice pa na ca, .slice pt nt ct, .slice pb nb cb, .bool rbr, .int .i64 ra] 46))) ⟨rn, ⟨pa, na, ca⟩, ⟨pt, nt, ct⟩, ⟨pb, nb, cb⟩, rbr, ra⟩ tt :=
          hat.keeps (fun g _ hg => hal.block g hg) hal.size fun g hg => ⟨hg.1, Nat.lt_of_lt_of_le hg.2 hal.size⟩
        have HP := Lib.hid (fun v6 w6 h6 hg6 hn6 => hA.put (v6 := v6) (w6 := w6) cmdAt_keeps hrb hW hat2 h6 hg6 hn6)
        clear hat2 hW hat
        go_wp2_with (at_builtin; go_loud (refine append_n _ rfl (.tmp 38) (.tmp 41) slC rfl W.heap.size _ R rfl (ownsG.alloc hA2.own _) ⟨_, 0, none⟩ [⟨rn, ⟨pa, na, ca⟩, ⟨pt, nt, ct⟩, ⟨pb, nb, cb⟩, rbr, ra⟩] 1 1 rfl rfl (cells_at _ _ (by simp) _ _) (by omega) (by omega) (by have := hA2.grown.size; simp; omega) ?_; intro v6 w6 h6 hg6 hn6))
        have hA6 := HP.out v6 w6 h6 hg6 hn6
        obtain ⟨q5, wv5, av5, hr5, hq5, hst5⟩ := pa_state hmatch hc hok herr
        have hr6 := (hr5.below hal).own hg6 hov
        go_roundw
        case rel => exact ⟨q5, _, _, wv5, av5, hA6, hr6, fun h => by have := hq5 h; rw [List.length_cons] at this; rw [List.length_append, List.length_singleton]; omega, hst5⟩
        case measure =>
          by_cases hw5 : wv5 = 0
          · subst hw5
            have h3 : av5 = 0 := by
              rcases hst5 with h | h
              · exact h.2.1
              · exact absurd rfl h.1
            rw [hmz, mz_good hr6]
            have := hq5 rfl
            rw [List.length_cons] at this
            omega
          · rw [hmz, mz_bad hr6 hw5]; omega
    · have k7 : (wv == 0) = false := beq_eq_false_iff_ne.2 hw0
      have k8 : (wv != 0) = true := bne_iff_ne.2 hw0
      obtain ⟨pu, cu, rfl, -, -⟩ := hrd
      by_cases h0 : l'.length = 0
      · have q1 : decide ((0 : Int) < (l'.length : Int)) = false := decide_eq_false (by omega)
        go_wp2_with fail
        go_quiet (fail)
        go_wp2_with fail
        go_ret3
        exact ⟨hfin _ (below_grown (below_drawS _ _) _), hw0, rfl⟩
      · have q1 : decide ((0 : Int) < (l'.length : Int)) = true := decide_eq_true (by omega)
        go_wp2_with fail
        go_quiet (fail)
        go_wp2_with fail
        go_ret3
        exact ⟨hfin _ (below_grown (below_drawS _ _) _), hw0, rfl⟩
end Go.Proofs.YtgimgkjggaijoaaGreatDoor
