/- Walks: the reference's comparison of scripts, where they are alike. Walks: the reference's comparison of scripts, where they are alike: tests. -/
import Derived.Test.YtgimgkjggaijoaaGreatDoorSvCm
import Derived.Test.YtgimgkjggaijoaaGreatDoorSvPl
import Derived.Deep.QuietTactic
import Derived.BigQuiet
namespace Go.Proofs.YtgimgkjggaijoaaGreatDoor
open Go.RowKit Pk Lx Sv

/-- nothing but draws -/
def Drw (w w' : World) : Prop := ∃ k, w' = w.drewN k
theorem Drw.refl (w : World) : Drw w w := ⟨0, rfl⟩
theorem Drw.more {w w' : World} (h : Drw w w') (n : Nat) : Drw w (w'.drewN n) := by
  obtain ⟨k, rfl⟩ := h
  exact ⟨k + n, World.drewN_drewN w k n⟩
theorem Drw.trans {w w' w2 : World} (h : Drw w w') (h2 : ∃ k, w2 = w'.drewN k) : Drw w w2 := by
  obtain ⟨n, rfl⟩ := h2
  exact h.more n
theorem Drw.cell {w w' : World} (h : Drw w w') (a : Addr) : w'.cell? a = w.cell? a := by
  obtain ⟨k, rfl⟩ := h
  rfl
theorem Drw.reads {α : Type} {L : Lay α} {w w' : World} {X : Nat → Prop} {v : Value} {m : List α} (h : Drw w w') (hr : ReadsR L w X v m) : ReadsR L w' X v m := by
  obtain ⟨k, rfl⟩ := h
  exact hr
/-- true, with nothing written -/
def QT (w : World) (e : Ending) (w' : World) : Prop := e = .returned (.bool true) ∧ ∃ m, w' = w.drewN m
theorem rdCell {α : Type} {L : Lay α} {w : World} {X : Nat → Prop} {v : Value} {m : List α} (h : ReadsR L w X v m) : ∃ p c, v = .slice p m.length c ∧ m.length ≤ c ∧ (m = [] ∨ ∃ g o, p = some ⟨g, o, none⟩ ∧ ∀ j (hj : j < m.length) i u, (L.enc m[j])[i]? = some u → w.cell? ⟨g, o + j * L.k + i, none⟩ = some u) := by
  obtain ⟨p, c, h1, h2, h3⟩ := h
  refine ⟨p, c, h1, h2, h3.imp_right ?_⟩
  rintro ⟨g, o, h4, -, -, h5⟩
  exact ⟨g, o, h4, h5⟩
set_option maxRecDepth 100000 in
theorem sameS (X Y : Nat → Prop) (va vb : Value) (a : List ByteArray) (w : World) (hA : ReadsR strL w X va a) (hB : ReadsR strL w Y vb a) (la : a.length ≤ 100000000) : Calls Tryz.prog 45 #[va, vb] w (QT w) := by
  obtain ⟨pa, ca, rfl, hca, hA⟩ := rdCell hA
  obtain ⟨pb, cb, rfl, hcb, hB⟩ := rdCell hB
  have HA := Lib.hid hA
  have HB := Lib.hid hB
  clear hA hB
  go_enter Tryz.func45, Tryz.ntmps45
  go_wp2
  go_loopw [5] (fun iv wr => ∃ (i : Nat), iv = .int .i64 i ∧ Drw w wr ∧ i ≤ a.length) (fun iv _ => a.length - (intOf iv).toNat)
  case atStart => exact ⟨0, by first | rfl | trivial, Drw.refl _, by omega⟩
  case round =>
    obtain ⟨i, rfl, hk, hi⟩ := hrel
    by_cases hlt : i < a.length
    · rcases HA.out with h0 | ⟨ga, oa, rfl, hca2⟩
      · rw [h0, List.length_nil] at hlt; omega
      · rcases HB.out with h0 | ⟨gb, ob, rfl, hcb2⟩
        · rw [h0, List.length_nil] at hlt; omega
        · have c1 : wr.cell? ⟨ga, oa + i, none⟩ = some (.string a[i]) := by
            have := hca2 i hlt 0 _ rfl
            rw [hk.cell]
            simpa [strL] using this
          have c2 : wr.cell? ⟨gb, ob + i, none⟩ = some (.string a[i]) := by
            have := hcb2 i hlt 0 _ rfl
            rw [hk.cell]
            simpa [strL] using this
          clear hca2 hcb2
          go_wp2
          go_quiet (fail)
          go_wp2
          go_roundw
          case rel => exact ⟨i + 1, by go_num, hk.more nq, by omega⟩
          case measure => simp [intOf]; omega
    · go_wp2
      go_ret
      exact ⟨rfl, hk⟩
/-- the cells of an element -/
theorem ReadsR_at {α : Type} {L : Lay α} {w wr : World} {g o j : Nat} {x : α} (hk : Drw w wr) (h : ∀ i u, (L.enc x)[i]? = some u → w.cell? ⟨g, o + j * L.k + i, none⟩ = some u) (i : Nat) {u : Value} (hu : (L.enc x)[i]? = some u) : wr.cell? ⟨g, o + j * L.k + i, none⟩ = some u := by
  rw [hk.cell]; exact h i u hu
def shortA (a : ArgT) : Prop := a.texts.length ≤ 100000000
set_option maxHeartbeats 4000000 in
set_option maxRecDepth 100000 in
theorem args2_any (X Y : Nat → Prop) (va vb : Value) (a : List ArgT) (w : World) (hA : ArgsAt w X va a) (hB : ArgsAt w Y vb a) (la : a.length ≤ 100000000) (lt : ∀ x ∈ a, shortA x) : Calls Tryz.prog 20 #[va, vb] w (QT w) := by
  obtain ⟨R, hR, rl, re⟩ := hA
  obtain ⟨S, hS, sl, se⟩ := hB
  obtain ⟨pa, ca, rfl, hca, hA⟩ := rdCell hR
  obtain ⟨pb, cb, rfl, hcb, hB⟩ := rdCell hS
  have HA := Lib.hid hA
  have HB := Lib.hid hB
  rw [rl] at hca ⊢
  rw [sl] at hcb ⊢
  clear hA hB hR hS
  go_enter Tryz.func20, Tryz.ntmps20
  go_wp2
  go_loopw [5, 6] (fun iv bv wr => ∃ (i : Nat), iv = .int .i64 i ∧ Drw w wr ∧ i ≤ a.length) (fun iv bv _ => a.length - (intOf iv).toNat)
  case atStart => exact ⟨0, by first | rfl | trivial, Drw.refl _, by omega⟩
  case round =>
    obtain ⟨i, rfl, hk, hi⟩ := hrel
    by_cases hlt : i < a.length
    · rcases HA.out with h0 | ⟨ga, oa, rfl, hca2⟩
      · rw [h0, List.length_nil] at rl; omega
      · rcases HB.out with h0 | ⟨gb, ob, rfl, hcb2⟩
        · rw [h0, List.length_nil] at sl; omega
        · have a1 := ReadsR_at hk (hca2 i (by omega))
          have a2 := ReadsR_at hk (hcb2 i (by omega))
          obtain ⟨e1, e2, e3, e4, e5⟩ := re i (by omega) hlt
          obtain ⟨f1, f2, f3, f4, f5⟩ := se i (by omega) hlt
          have hsh := lt a[i] (List.getElem_mem hlt)
          generalize R[i] = r at *
          generalize S[i] = s at *
          generalize a[i] = b at *
          obtain ⟨rk, rt, rn, ⟨rp, rm, rc⟩, rs⟩ := r
          obtain ⟨sk, st, sn, ⟨sp, sm, sc⟩, ss⟩ := s
          simp only at e1 e2 e3 e4 f1 f2 f3 f4
          subst e1 e2 e3 e4 f1 f2 f3 f4
          have c0 : wr.cell? ⟨ga, oa + i * 5, none⟩ = some (.int .i64 b.k) := a1 0 rfl
          have c1 : wr.cell? ⟨ga, oa + i * 5 + 1, none⟩ = some (.string b.tag) := a1 1 rfl
          have c2 : wr.cell? ⟨ga, oa + i * 5 + 2, none⟩ = some (.int .i64 b.n) := a1 2 rfl
          have c3 : wr.cell? ⟨ga, oa + i * 5 + 3, none⟩ = some (.slice rp rm rc) := a1 3 rfl
          have c4 : wr.cell? ⟨ga, oa + i * 5 + 4, none⟩ = some (.bool b.list) := a1 4 rfl
          have d0 : wr.cell? ⟨gb, ob + i * 5, none⟩ = some (.int .i64 b.k) := a2 0 rfl
          have d1 : wr.cell? ⟨gb, ob + i * 5 + 1, none⟩ = some (.string b.tag) := a2 1 rfl
          have d2 : wr.cell? ⟨gb, ob + i * 5 + 2, none⟩ = some (.int .i64 b.n) := a2 2 rfl
          have d3 : wr.cell? ⟨gb, ob + i * 5 + 3, none⟩ = some (.slice sp sm sc) := a2 3 rfl
          have d4 : wr.cell? ⟨gb, ob + i * 5 + 4, none⟩ = some (.bool b.list) := a2 4 rfl
          have HS := Lib.hid (fun n => sameS X Y (.slice rp rm rc) (.slice sp sm sc) b.texts (wr.drewN n) (hk.reads e5) (hk.reads f5) hsh)
          clear a1 a2 e5 f5 hca2 hcb2 hsh
          go_wp2
          go_quiet ((go_at_call 45; exact Calls.quiet_of (HS.out _)))
          go_wp2
          go_quiet (fail)
          go_wp2
          go_roundw
          case rel => exact ⟨i + 1, by go_num, hk.more _, by omega⟩
          case measure => simp [intOf]; omega
    · go_wp2
      go_ret
      exact ⟨rfl, hk⟩
end Go.Proofs.YtgimgkjggaijoaaGreatDoor
namespace Go.Proofs.YtgimgkjggaijoaaGreatDoor
open Go.RowKit Pk Lx Sv

theorem TL.len {P : Int → Int → Prop} {l l' : List TestT} (h : TL P l l') : l.length = l'.length := by
  induction l generalizing l' with
  | nil => cases h; rfl
  | cons t r ih => cases h with | cons h1 h2 => rw [List.length_cons, List.length_cons, ih h2]
theorem TL.at {P : Int → Int → Prop} : ∀ {l l' : List TestT}, TL P l l' → ∀ (i : Nat) (h1 : i < l.length) (h2 : i < l'.length), TR P l[i] l'[i]
  | _, _, .cons h _, 0, _, _ => h
  | _, _, .cons _ h, i + 1, h1, h2 => TL.at h i (by simpa using h1) (by simpa using h2)
theorem TR.parts {P : Int → Int → Prop} {t t' : TestT} (h : TR P t t') : tName t = tName t' ∧ tArgs t = tArgs t' ∧ TL P (tKids t) (tKids t') ∧ P (tAt t) (tAt t') := by
  cases h with
  | mk hk ha => exact ⟨rfl, rfl, hk, ha⟩
theorem wTx_len' (l : List ByteArray) : l.length ≤ wTx l := by
  induction l with
  | nil => exact Nat.le_refl _
  | cons t r ih => show r.length + 1 ≤ 1 + t.size + wTx r; omega
theorem wAs_len (l : List ArgT) : l.length ≤ wAs l := by
  induction l with
  | nil => exact Nat.le_refl _
  | cons t r ih => show r.length + 1 ≤ wA t + wAs r; unfold wA; omega
theorem wAs_mem : ∀ {l : List ArgT} {a : ArgT}, a ∈ l → wA a ≤ wAs l
  | x :: r, a, h => by
    show _ ≤ wA x + wAs r
    rcases List.mem_cons.1 h with rfl | h
    · omega
    · have := wAs_mem h; omega
theorem shortA_of {l : List ArgT} (h : wAs l ≤ 100000000) : ∀ x ∈ l, shortA x := by
  intro x hx
  have := wAs_mem hx
  have h2 := wTx_len' x.texts
  unfold wA at this
  unfold shortA
  omega
theorem wT_parts (t : TestT) : wT t = 1 + (tName t).size + wAs (tArgs t) + wTs (tKids t) := by cases t; unfold wT; rfl
theorem wTs_len (l : List TestT) : l.length ≤ wTs l := by
  induction l with
  | nil => exact Nat.zero_le _
  | cons t r ih => show r.length + 1 ≤ wT t + wTs r; rw [wT_parts]; omega
theorem wTs_at : ∀ {l : List TestT} (i : Nat) (h : i < l.length), wT l[i] ≤ wTs l
  | x :: r, 0, h => by show wT x ≤ wT x + wTs r; omega
  | x :: r, i + 1, h => by have := wTs_at (l := r) i (by simpa using h); show wT (r[i]'(by simpa using h)) ≤ wT x + wTs r; omega
theorem kid_lt {l : List TestT} (i : Nat) (h : i < l.length) : wTs (tKids l[i]) < wTs l := by
  have := wTs_at i h
  rw [wT_parts] at this
  omega
/-- places that are compared are the same -/
def Pl (pl : Bool) (x y : Int) : Prop := pl = true → x = y
set_option maxHeartbeats 8000000 in
set_option maxRecDepth 100000 in
theorem tests2_any (pl : Bool) : ∀ (m : Nat) (X Y : Nat → Prop) (va vb : Value) (a b : List TestT) (w : World), TestsAt w X va a → TestsAt w Y vb b → TL (Pl pl) a b → wTs a < m → wTs a ≤ 100000000 → Calls Tryz.prog 21 #[va, vb, .bool pl] w (QT w)
  | 0, X, Y, va, vb, a, b, w, hA, hB, hab, hm, hs => absurd hm (Nat.not_lt_zero _)
  | m + 1, X, Y, va, vb, a, b, w, hA, hB, hab, hm, hs => by
    have ih := tests2_any pl m
    obtain ⟨R, hR, rl, re⟩ := hA.out
    obtain ⟨S, hS, sl, se⟩ := hB.out
    obtain ⟨pa, ca, rfl, hca, hA⟩ := rdCell hR
    obtain ⟨pb, cb, rfl, hcb, hB⟩ := rdCell hS
    have HA := Lib.hid hA
    have HB := Lib.hid hB
    have hl := TL.len hab
    have RL := Lib.hid rl
    have SL := Lib.hid (sl.trans hl.symm)
    have hla := wTs_len a
    rw [rl] at hca ⊢
    rw [sl, ← hl] at hcb ⊢
    have IH := Lib.hid ih
    have HL := Lib.hid hl
    clear hA hB hR hS ih hl rl sl
    go_enter Tryz.func21, Tryz.ntmps21
    go_wp2
    go_loopg [7] a.length (fun g iv wr => ∃ (i : Nat), i + g = a.length ∧ iv = .int .i64 i ∧ Drw w wr)
    case atStart => exact ⟨0, by omega, by first | rfl | trivial, Drw.refl _⟩
    case round =>
      obtain ⟨i, hig, rfl, hk⟩ := hrel
      by_cases hlt : i < a.length
      · rcases HA.out with h0 | ⟨ga, oa, rfl, hca2⟩
        · have rl := RL.out; rw [h0, List.length_nil] at rl; omega
        · rcases HB.out with h0 | ⟨gb, ob, rfl, hcb2⟩
          · have sl := SL.out; rw [h0, List.length_nil] at sl; omega
          · have iR : i < R.length := by have := RL.out; omega
            have iS : i < S.length := by have := SL.out; omega
            have ib : i < b.length := by have := HL.out; omega
            have a1 := ReadsR_at hk (hca2 i iR)
            have a2 := ReadsR_at hk (hcb2 i iS)
            obtain ⟨e1, e2, e3, e4⟩ := re i iR hlt
            obtain ⟨f1, f2, f3, f4⟩ := se i iS ib
            obtain ⟨k1, k2, k3, k4⟩ := TR.parts (TL.at hab i hlt ib)
            have hw := wTs_at i hlt
            have hkl := kid_lt i hlt
            rw [wT_parts] at hw
            generalize R[i] = r at *
            generalize S[i] = s at *
            generalize a[i] = t at *
            generalize b[i] = t' at *
            obtain ⟨rn, ⟨ap, an, ac⟩, ⟨kp, kn, kc⟩, ra⟩ := r
            obtain ⟨sn, ⟨bp, bn, bc⟩, ⟨lp, ln, lc⟩, sa⟩ := s
            have f1 : sn = tName t' := f1
            have f2 : sa = tAt t' := f2
            have e1 : rn = tName t := e1
            have e2 : ra = tAt t := e2
            rw [← k1] at f1
            subst e1 e2 f1 f2
            have c0 : wr.cell? ⟨ga, oa + i * 4, none⟩ = some (.string (tName t)) := a1 0 rfl
            have c1 : wr.cell? ⟨ga, oa + i * 4 + 1, none⟩ = some (.slice ap an ac) := a1 1 rfl
            have c2 : wr.cell? ⟨ga, oa + i * 4 + 2, none⟩ = some (.slice kp kn kc) := a1 2 rfl
            have c3 : wr.cell? ⟨ga, oa + i * 4 + 3, none⟩ = some (.int .i64 (tAt t)) := a1 3 rfl
            have d0 : wr.cell? ⟨gb, ob + i * 4, none⟩ = some (.string (tName t)) := a2 0 rfl
            have d1 : wr.cell? ⟨gb, ob + i * 4 + 1, none⟩ = some (.slice bp bn bc) := a2 1 rfl
            have d2 : wr.cell? ⟨gb, ob + i * 4 + 2, none⟩ = some (.slice lp ln lc) := a2 2 rfl
            have d3 : wr.cell? ⟨gb, ob + i * 4 + 3, none⟩ = some (.int .i64 (tAt t')) := a2 3 rfl
            rw [← k2] at f3
            have hz : ∀ (Z : Nat → Prop) W, Drw w W → ∀ g, Z g → g < w.heap.size → W.heap[g]? = w.heap[g]? := fun Z W hW g _ _ => by obtain ⟨k, rfl⟩ := hW; rfl
            have hzs : ∀ W, Drw w W → w.heap.size ≤ W.heap.size := fun W hW => by obtain ⟨k, rfl⟩ := hW; exact Nat.le_refl _
            have HS := Lib.hid (fun W hW => args2_any X Y (.slice ap an ac) (.slice bp bn bc) (tArgs t) W (e3.keeps (hz X W hW) (hzs W hW) fun _ h => h) (f3.keeps (hz Y W hW) (hzs W hW) fun _ h => h) (by have := wAs_len (tArgs t); omega) (shortA_of (by omega)))
            have HK := Lib.hid (fun W hW => IH.out X Y (.slice kp kn kc) (.slice lp ln lc) (tKids t) (tKids t') W (e4.keeps (hz X W hW) (hzs W hW) fun _ h => h) (f4.keeps (hz Y W hW) (hzs W hW) fun _ h => h) k3 (by omega) (by omega))
            have hpl : pl = false ∨ (pl = true ∧ tAt t = tAt t') := by
              cases pl with
              | false => exact .inl rfl
              | true => exact .inr ⟨rfl, k4 rfl⟩
            clear a1 a2 e3 e4 f3 f4 hca2 hcb2 hz hzs k3 k4
            generalize tName t = nm at *
            generalize tAt t = at1 at *
            generalize tAt t' = at2 at *
            rcases hpl with rfl | ⟨rfl, rfl⟩
            ·
              go_wp2
              go_quiet ((go_at_call 20; exact Calls.quiet_of (HS.out _ (hk.more _))))
              have hk := hk.more nq
              replace c0 : (wr.drewN nq).cell? _ = _ := c0
              replace c1 : (wr.drewN nq).cell? _ = _ := c1
              replace c2 : (wr.drewN nq).cell? _ = _ := c2
              replace c3 : (wr.drewN nq).cell? _ = _ := c3
              replace d0 : (wr.drewN nq).cell? _ = _ := d0
              replace d1 : (wr.drewN nq).cell? _ = _ := d1
              replace d2 : (wr.drewN nq).cell? _ = _ := d2
              replace d3 : (wr.drewN nq).cell? _ = _ := d3
              generalize wr.drewN nq = wq at *
              go_wp2
              go_quiet ((go_at_call 21; exact Calls.quiet_of (HK.out _ (hk.more _))))
              go_wp2
              go_quiet (fail)
              go_wp2
              go_roundg (a.length - (i + 1))
              case rel => exact ⟨i + 1, by omega, by go_num, hk.more _⟩
              case measure => omega
            ·
              go_wp2
              go_quiet ((go_at_call 20; exact Calls.quiet_of (HS.out _ (hk.more _))))
              have hk := hk.more nq
              replace c0 : (wr.drewN nq).cell? _ = _ := c0
              replace c1 : (wr.drewN nq).cell? _ = _ := c1
              replace c2 : (wr.drewN nq).cell? _ = _ := c2
              replace c3 : (wr.drewN nq).cell? _ = _ := c3
              replace d0 : (wr.drewN nq).cell? _ = _ := d0
              replace d1 : (wr.drewN nq).cell? _ = _ := d1
              replace d2 : (wr.drewN nq).cell? _ = _ := d2
              replace d3 : (wr.drewN nq).cell? _ = _ := d3
              generalize wr.drewN nq = wq at *
              go_wp2
              go_quiet ((go_at_call 21; exact Calls.quiet_of (HK.out _ (hk.more _))))
              go_wp2
              go_quiet (fail)
              go_wp2
              go_roundg (a.length - (i + 1))
              case rel => exact ⟨i + 1, by omega, by go_num, hk.more _⟩
              case measure => omega
      · go_wp2
        go_ret
        exact ⟨rfl, hk⟩
end Go.Proofs.YtgimgkjggaijoaaGreatDoor
