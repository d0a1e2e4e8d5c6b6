/- Walks: the reference of layer 22: RCPT, a line of a message. -/
import Derived.Test.YtjoipgekmnnlpaaGreatDoorTlM
namespace Go.Proofs.YtjoipgekmnnlpaaGreatDoor
open Go.RowKit Go.Shelf Go.Lib Pk Hx C1 Sm

section
variable {w w' : World} {rb most fb : Nat} {kv tv : Value} {g h tk lg wt ov : Bool} {fr B : ByteArray}
/-- what RCPT leaves -/
def RcpIs (w : World) (rb most fb : Nat) (kv : Value) (g h : Bool) (fr : ByteArray) (tv : Value) (tk lg : Bool) (B : ByteArray) (wt ov : Bool) (L : List (List UInt8)) (p : Nat × Option (List UInt8)) (e : Ending) (w' : World) : Prop :=
  e = .returned (.string (bt (repW p.1))) ∧ Fr (Bk rb) w w' ∧ match p.2 with
    | none => RawR w' rb most fb kv g h fr tv tk lg B wt ov ∧ Below w.heap.size w w'
    | some a => ∃ tv', RawR w' rb most fb kv g h fr tv' tk lg B wt ov ∧ Qs txL True w' 9 tv' ((L ++ [a]).map bt) ∧ ∀ k, tv'.ownBlock = some k → w.heap.size ≤ k
theorem rcpIs_same (x : RawR w rb most fb kv g h fr tv tk lg B wt ov) {L : List (List UInt8)} {n : Nat} {p : Nat × Option (List UInt8)} (hp : p = (n, none)) {w' : World} (hb : Below w.heap.size w w') : RcpIs w rb most fb kv g h fr tv tk lg B wt ov L p (.returned (.string (bt (repW n)))) w' := by
  subst hp
  exact ⟨rfl, Fr.of_below hb, x.later hb, hb⟩
/-- elements of a list of texts in memory -/
theorem qs_cells {w : World} {v : Value} {L : List ByteArray} (h : Qs txL True w 9 v L) : ∃ p c, v = .slice p L.length c ∧ (L = [] ∨ ∃ g o, p = some ⟨g, o, none⟩ ∧ ∀ i (hi : i < L.length), w.cell? ⟨g, o + i, none⟩ = some (.string L[i])) := by
  rcases h with ⟨rfl, rfl⟩ | ⟨g, o, cap, cur, fz, rfl, h1, h2, h3, h4, h5, h6, h7⟩
  · exact ⟨_, _, rfl, .inl rfl⟩
  · refine ⟨_, _, rfl, .inr ⟨g, o, rfl, fun i hi => ?_⟩⟩
    rw [cell_cur h3]
    refine h7 i _ ?_
    rw [txL_enc, List.getElem?_map, List.getElem?_eq_getElem hi]
    rfl
theorem qs_lit0 (w : World) : Qs txL True (w.alloc (.cells #[] 9)) 9 (.slice (some ⟨w.heap.size, 0, none⟩) 0 0) [] :=
  .inr ⟨w.heap.size, 0, 0, #[], (0, 0), rfl, Nat.le_refl _, Nat.zero_le _, heap_alloc_new w _, Nat.le_refl _, Nat.le_refl _, fun _ => rfl, fun j u hj => by simp at hj⟩
theorem Qs.srcR {α : Type} {L : Lay α} {P : Program} {z : Prop} {w : World} {t e : TypeId} {v : Value} {l : List α} (ht : P.underlying t = some (.slice e)) (h : Qs L z w e v l) : Src P L.k t v l.length (l.flatMap L.enc) w := by
  rcases h with ⟨rfl, rfl⟩ | ⟨g, o, cap, cur, fz, rfl, h1, h2, h3, h4, h5, h6, h7⟩
  · exact Src.ofNil _ ht 0
  · exact Src.ofSlice _ ht _ _ _ _ (encG_length L l) (fun j u hu => by rw [Addr.add_lit]; exact (cell_cur h3 _).trans (h7 j u hu)) (by intro u hu; obtain ⟨y, _, hy⟩ := List.mem_flatMap.1 hu; exact L.one y u hy)
theorem app_run {P : Program} {w w' : World} {ops : Array Oper} {rest : List Oper} {o : Oper} {a : Act} {Q : Exit → Act → World → Prop} {s x : Operand} {t tx : TypeId} {v v' xv : Value} (hgd : o.guard = none)
    (ho : o.op = .call { callee := .builtin .append, args := #[s, x], argTypes := #[t, tx] }) (hs : a.eval s = v) (hx : a.eval x = xv) (hr : (Builtin.append_ #[t, tx] o.type #[v, xv]).run P w = .ok v' w')
    (h : wpList P ops Q rest (a.put o.dst v') w') : wpList P ops Q (o :: rest) a w := by
  refine wpList_plain hgd fun _ hK => ?_
  unfold Oper.wp execOp
  simp only [ho, resolve, invoke, builtin, Sem.run_bind, Sem.run_pure, Result.andThen_ok, List.map_toArray, List.map_cons, List.map_nil, hs, hx, hr]
  exact hK _ _ h
/-- a fresh copy of a list -/
theorem copy_list {w : World} {tv : Value} {L : List ByteArray} (hq : Qs txL True w 9 tv L) (hl : L.length ≤ 2000000) (ty : TypeId) :
    ∃ v1 w2, (Builtin.append_ #[22, 22] ty #[.slice (some ⟨w.heap.size, 0, none⟩) 0 0, tv]).run Tryz.prog (w.alloc (.cells #[] 9)) = .ok v1 w2 ∧
      Qs txL True w2 9 v1 L ∧ Below w.heap.size w w2 ∧ (∀ k, v1.ownBlock = some k → w.heap.size ≤ k) := by
  have hb1 : Below w.heap.size w (w.alloc (.cells #[] 9)) := (Below.refl _ _).alloc (Nat.le_refl _) _
  have hq1 : Qs txL True (w.alloc (.cells #[] 9)) 9 tv L := hq.kept fun g e => hb1.block g (hq.lt e)
  obtain ⟨v1, w2, hr, hq2, hg, hn, -⟩ := run_append_q (P := Tryz.prog) txGR (qs_lit0 w) 22 ty tv L (Qs.srcR Tryz.underlying22 hq1) (by simp; omega) (by simp; omega)
  rw [List.nil_append] at hq2
  have ho : (Value.slice (some (⟨w.heap.size, 0, none⟩ : Addr)) 0 0).ownBlock = some w.heap.size := rfl
  refine ⟨v1, w2, hr, hq2, hb1.grown hg (by rw [World.size_alloc]; omega) (fun k e => by rw [ho] at e; injection e with e; omega), fun k e => ?_⟩
  rcases hn with e' | e'
  · rw [e', ho] at e; injection e with e; omega
  · have := e' k e; rw [World.size_alloc] at this; omega
/-- one more at the end -/
theorem add_one {w : World} {v1 : Value} {L : List ByteArray} (A : ByteArray) (hq : Qs txL True w 9 v1 L) (hl : L.length ≤ 2000000) (ty : TypeId) :
    ∃ v2 w2, (Builtin.append_ #[22, 22] ty #[v1, .slice (some ⟨w.heap.size, 0, none⟩) 1 1]).run Tryz.prog (w.alloc (.cells #[.string A] 9)) = .ok v2 w2 ∧
      Qs txL True w2 9 v2 (L ++ [A]) ∧ (w.alloc (.cells #[.string A] 9)).grownBy w2 v1.ownBlock ∧ NewOwn (w.alloc (.cells #[.string A] 9)) v1 v2 := by
  have hb1 : Below w.heap.size w (w.alloc (.cells #[.string A] 9)) := (Below.refl _ _).alloc (Nat.le_refl _) _
  have hq1 : Qs txL True (w.alloc (.cells #[.string A] 9)) 9 v1 L := hq.kept fun g e => hb1.block g (hq.lt e)
  have hsrc : Src Tryz.prog txL.k 22 (.slice (some ⟨w.heap.size, 0, none⟩) 1 1) ([A] : List ByteArray).length (([A] : List ByteArray).flatMap txL.enc) (w.alloc (.cells #[.string A] 9)) :=
    Src.ofSlice _ Tryz.underlying22 _ _ _ _ rfl (fun j u hu => cells_new w [.string A] 9 j u hu) (by intro u hu; simp [txL] at hu; subst hu; rfl)
  obtain ⟨v2, w2, hr, hq2, hg, hn, -⟩ := run_append_q (P := Tryz.prog) txGR hq1 22 ty _ [A] hsrc (by simp; omega) (by simp; omega)
  exact ⟨v2, w2, hr, hq2, hg, hn⟩
theorem two_lists {w : World} {tv : Value} {L : List ByteArray} (A : ByteArray) (hq : Qs txL True w 9 tv L) (hl : L.length ≤ 1000000) (ty : TypeId) :
    ∃ v1 w2 v2 w4, (Builtin.append_ #[22, 22] ty #[.slice (some ⟨w.heap.size, 0, none⟩) 0 0, tv]).run Tryz.prog (w.alloc (.cells #[] 9)) = .ok v1 w2 ∧
      (Builtin.append_ #[22, 22] ty #[v1, .slice (some ⟨w2.heap.size, 0, none⟩) 1 1]).run Tryz.prog (w2.alloc (.cells #[.string A] 9)) = .ok v2 w4 ∧
      Qs txL True w4 9 v2 (L ++ [A]) ∧ Below w.heap.size w w4 ∧ (∀ k, v2.ownBlock = some k → w.heap.size ≤ k) := by
  obtain ⟨v1, w2, r1, q1, b1, o1⟩ := copy_list hq (by omega) ty
  obtain ⟨v2, w4, r2, q2, g2, n2⟩ := add_one A q1 (by omega) ty
  have b3 : Below w.heap.size w (w2.alloc (.cells #[.string A] 9)) := b1.alloc b1.size _
  refine ⟨v1, w2, v2, w4, r1, r2, q2, b3.grown g2 b3.size (fun k e => o1 k e), fun k e => ?_⟩
  rcases n2 with e' | e'
  · exact o1 k (by rw [← e']; exact e)
  · have := e' k e; have := b3.size; omega
set_option maxHeartbeats 4000000 in
set_option maxRecDepth 100000 in
theorem rcptR_any (rest : ByteArray) (L : List (List UInt8)) (hl : rest.size ≤ 100000) (hn : NT rest.data.toList) (hLl : L.length ≤ 1000) (hq : Qs txL True w 9 tv (L.map bt)) (hne : tv.ownBlock ≠ some rb) (x : RawR w rb most fb kv g h fr tv tk lg B wt ov) :
    Calls Tryz.prog 77 #[.pointer (some ⟨rb, 0, none⟩), .string rest] w (RcpIs w rb most fb kv g h fr tv tk lg B wt ov L (rcptC h L rest.data.toList)) := by
  have c4 := x.cells.c4
  have HX := Lib.hid x
  cases h with
  | false =>
    have HP : Hid (rcptC false L rest.data.toList = (503, none)) := by unfold rcptC; rw [if_pos rfl]; rfl
    have HR := Lib.hid (rrep503 w)
    clear x hn hq
    go_enter Tryz.func77, Tryz.ntmps77
    go_wp2_with fail
    refine HR.out.mono ?_
    rintro e w1 ⟨rfl, hb1⟩
    go_wp2
    go_ret
    exact rcpIs_same HX.out HP.out hb1
  | true =>
    have H501 := Lib.hid (fun w => rrep501 w)
    have H250 := Lib.hid (fun w => rrep250 w)
    obtain ⟨X, T, A, Y, one, two, hC⟩ := path_calls ⟨#[84, 79, 58]⟩ rest w (by decide) hl hn
    have hmc : rcptC true L rest.data.toList = match (if (one && two) = true then some (A.data.toList, Y.data.toList) else none) with
      | none => (501, none)
      | some (a, y) =>
        if (!y.isEmpty || !mayW a) = true then (501, none) else
        if L.contains a = true then (250, none) else
        if 16 ≤ L.length then (452, none) else (250, some a) := by
      rw [← hC.eq]
      unfold rcptC; rw [if_neg (by decide)]; rfl
    obtain ⟨M, hM⟩ : ∃ M, M = rcptC true L rest.data.toList := ⟨_, rfl⟩
    rw [← hM] at hmc ⊢
    have HM := Lib.hid hmc
    have HBh := Lib.hid hC.beh
    have HTr := Lib.hid hC.tri
    have HPa := Lib.hid hC.pat
    have hmay := fun w => rmay_any A w (by have := hC.sA; omega)
    have HMy := Lib.hid hmay
    have HQ := Lib.hid (And.intro hq (And.intro hne hLl))
    clear x hn hM hmc hC hmay hq hne hLl
    go_enter Tryz.func77, Tryz.ntmps77
    go_wp2_with fail
    refine HBh.out.mono ?_
    rintro e w1 ⟨rfl, hb1⟩
    go_wp2_with fail
    refine (HTr.out _).mono ?_
    rintro e w2 ⟨rfl, rfl⟩
    go_wp2_with fail
    refine (HPa.out _).mono ?_
    rintro e w4 ⟨rfl, hb3⟩
    have hbw := Lib.hid (hb1.trans (hb3.mono hb1.size))
    clear hb1 hb3 c4
    cases one with
    | false =>
      have HP : Hid (M = (501, none)) := HM.out
      go_wp2_with fail
      refine (H501.out _).mono ?_
      rintro e w9 ⟨rfl, hb9⟩
      have hbl := hbw.out.trans (hb9.mono hbw.out.size)
      go_wp2
      go_ret
      exact rcpIs_same HX.out HP.out hbl
    | true =>
      cases two with
      | false =>
        have HP : Hid (M = (501, none)) := HM.out
        go_wp2_with fail
        refine (H501.out _).mono ?_
        rintro e w9 ⟨rfl, hb9⟩
        have hbl := hbw.out.trans (hb9.mono hbw.out.size)
        go_wp2
        go_ret
        exact rcpIs_same HX.out HP.out hbl
      | true =>
        have HM1 : Hid (M = (if (!Y.data.toList.isEmpty || !mayW A.data.toList) = true then (501, none) else if L.contains A.data.toList = true then (250, none) else if 16 ≤ L.length then (452, none) else (250, some A.data.toList))) := HM.out
        clear HM
        by_cases hY0 : Y = ⟨#[]⟩
        · obtain ⟨e1, e2⟩ := str_nilR hY0
          have hmy := HMy.out w4
          cases hmw : mayW A.data.toList with
          | false =>
            rw [hmw] at hmy
            have HMy2 := Lib.hid hmy
            have HP : Hid (M = (501, none)) := by
              show M = (501, none)
              rw [HM1.out, hmw, if_pos (by simp)]
            clear hY0 hmy hmw HMy
            go_wp2_with fail
            refine HMy2.out.mono ?_
            rintro e w5 ⟨rfl, rfl⟩
            go_wp2_with fail
            refine (H501.out _).mono ?_
            rintro e w9 ⟨rfl, hb9⟩
            have hbl := hbw.out.trans (hb9.mono hbw.out.size)
            go_wp2
            go_ret
            exact rcpIs_same HX.out HP.out hbl
          | true =>
            rw [hmw] at hmy
            have HMy2 := Lib.hid hmy
            have HM2 : Hid (M = (if L.contains A.data.toList = true then (250, none) else if 16 ≤ L.length then (452, none) else (250, some A.data.toList))) := by
              show M = (if L.contains A.data.toList = true then (250, none) else if 16 ≤ L.length then (452, none) else (250, some A.data.toList))
              have h9 := HM1.out
              rw [hmw, hY0, if_neg (by decide)] at h9
              exact h9
            clear hY0 hmy hmw HMy HM1
            have rx := HX.out.later hbw.out
            have hq4 : Qs txL True w4 9 tv (L.map bt) := HQ.out.1.kept fun g e => hbw.out.block g (HQ.out.1.lt e)
            obtain ⟨p, c, hv, hcs⟩ := qs_cells hq4
            obtain ⟨n, hnl⟩ : ∃ n, n = L.length := ⟨_, rfl⟩
            rw [List.length_map, ← hnl] at hv
            subst hv
            have c6 := rx.cells.c6
            have HR6 := Lib.hid (And.intro rx (And.intro hq4 (And.intro hcs hnl)))
            have hn1000 : n ≤ 1000 := by have := HQ.out.2.2; omega
            clear rx hq4 hcs hnl
            go_wp2_with fail
            refine HMy2.out.mono ?_
            rintro e w5 ⟨rfl, rfl⟩
            go_wp2_with fail
            go_loopg [10] n (fun g iv wr => ∃ i : Nat, i + g = n ∧ iv = .int .i64 i ∧ wr = w5 ∧ Hid (∀ j, j < i → ∀ hj : j < L.length, L[j] ≠ A.data.toList))
            case atStart => exact ⟨0, by omega, rfl, rfl, fun j hj => by omega⟩
            case round =>
              obtain ⟨i, hi, rfl, rfl, hno⟩ := hrel
              by_cases hlt : i < n
              · have hlL : i < L.length := by have := HR6.out.2.2.2; omega
                have r1 : decide ((i : Int) < (n : Int)) = true := decide_eq_true (by omega)
                have r3 : (i : Int) < (n : Int) := by omega
                have r6 : IntKind.i64.wrap ((i : Int) + 1) = (i : Int) + 1 := w64 rfl (by omega) (by omega)
                rcases HR6.out.2.2.1 with he | ⟨gq, oq, rfl, hcell⟩
                · exact absurd hlL (by rw [List.map_eq_nil_iff.1 he]; simp)
                · have hc := hcell i (by rw [List.length_map]; exact hlL)
                  rw [List.getElem_map] at hc
                  obtain ⟨E, hE, hEd, -⟩ := bt_ex L[i]
                  rw [← hE] at hc
                  have hcmp : (E.toList == A.toList) = decide (L[i] = A.data.toList) := by
                    rw [Lib.toList_data, Lib.toList_data, hEd]
                    by_cases e : L[i] = A.data.toList
                    · rw [e, beq_self_eq_true, decide_eq_true rfl]
                    · rw [beq_eq_false_iff_ne.2 e, decide_eq_false e]
                  by_cases he : L[i] = A.data.toList
                  · have HP : Hid (M = (250, none)) := by
                      rw [HM2.out, if_pos (by rw [List.contains_iff_mem, ← he]; exact List.getElem_mem hlL)]
                      rfl
                    rw [decide_eq_true he] at hcmp
                    clear hcell hE hEd he hno hlt
                    go_wp2_with fail
                    refine (H250.out _).mono ?_
                    rintro e w9 ⟨rfl, hb9⟩
                    have hbl := hbw.out.trans (hb9.mono hbw.out.size)
                    go_wp2
                    go_ret
                    exact rcpIs_same HX.out HP.out hbl
                  · rw [decide_eq_false he] at hcmp
                    have HNo : Hid (∀ j, j < i + 1 → ∀ hj : j < L.length, L[j] ≠ A.data.toList) := fun j hj hjl => by
                      rcases Nat.lt_or_ge j i with h | h
                      · exact hno.out j h hjl
                      · obtain rfl : j = i := by omega
                        exact he
                    clear hcell hE hEd he hno
                    go_wp2
                    go_roundg (n - (i + 1))
                    case rel => exact ⟨i + 1, by omega, rfl, rfl, HNo⟩
                    case measure => omega
              · have r1 : decide ((i : Int) < (n : Int)) = false := decide_eq_false (by omega)
                have r2 : decide (i < n) = false := decide_eq_false hlt
                have hcn : ¬ L.contains A.data.toList = true := by
                  rw [List.contains_iff_mem]
                  intro hm
                  obtain ⟨j, hj, e⟩ := List.getElem_of_mem hm
                  exact hno.out j (by have := HR6.out.2.2.2; omega) hj e
                have hm3 := HM2.out
                rw [if_neg hcn] at hm3
                by_cases h16 : 16 ≤ n
                · have HP : Hid (M = (452, none)) := by rw [hm3, if_pos (by have := HR6.out.2.2.2; omega)]; rfl
                  have r4 : decide ((16 : Int) ≤ (n : Int)) = true := decide_eq_true (by omega)
                  have HR := Lib.hid (fun w => rrep452 w)
                  clear hno hcn hm3 hi hlt
                  go_wp2_with fail
                  refine (HR.out _).mono ?_
                  rintro e w9 ⟨rfl, hb9⟩
                  have hbl := hbw.out.trans (hb9.mono hbw.out.size)
                  go_wp2
                  go_ret
                  exact rcpIs_same HX.out HP.out hbl
                · have HP : Hid (M = (250, some A.data.toList)) := by rw [hm3, if_neg (by have := HR6.out.2.2.2; omega)]; rfl
                  have r4 : decide ((16 : Int) ≤ (n : Int)) = false := decide_eq_false (by omega)
                  clear hno hcn hm3 hi
                  obtain ⟨v1, W2, v2, W4, hap1, hap2, hq4, hb4, ho4⟩ := two_lists A HR6.out.2.1 (by rw [List.length_map]; have := HR6.out.2.2.2; omega) 22
                  obtain ⟨p2, c2, hv2, -⟩ := hq4.form
                  obtain ⟨m2, hm2⟩ : ∃ m2, m2 = (L.map bt ++ [A]).length := ⟨_, rfl⟩
                  rw [← hm2] at hv2
                  clear hm2
                  subst hv2
                  have ry := HR6.out.1.later hb4
                  have k6 := ry.cells.c6
                  have z6 := ry.frz 6
                  have k1 : (wr.alloc (.cells #[] 9)).cell? ⟨rb, 6, none⟩ = some (.slice p n c) := cell_later ((Below.refl _ _).alloc (Nat.le_refl _) _) c6
                  have HE := Lib.hid (And.intro ry (And.intro hq4 (And.intro hb4 ho4)))
                  clear ry hq4 hb4 ho4
                  go_wp2_with (first
                    | (at_builtin; refine app_run rfl rfl rfl rfl hap1 ?_)
                    | (at_builtin; refine app_run rfl rfl rfl rfl hap2 ?_))
                  refine (H250.out _).mono ?_
                  rintro e w9 ⟨rfl, hb9⟩
                  go_wp2
                  go_ret
                  obtain ⟨ry, hq4, hb4, ho4⟩ := HE.out
                  have hbW : Below w.heap.size w W4 := hbw.out.trans (hb4.mono hbw.out.size)
                  have f : Fr (Bk rb) w (W4.setCell ⟨rb, 6, none⟩ (.slice p2 m2 c2)) := (Fr.of_below (X := Bk rb) hbW).setCell (by rfl) _
                  rw [HP.out]
                  refine ⟨rfl, f.then hb9, _, (ry.set6 _).later hb9, ?_, fun k e => Nat.le_trans hbw.out.size (ho4 k e)⟩
                  have hrl := HX.out.lt
                  have hq5 : Qs txL True (W4.setCell ⟨rb, 6, none⟩ (.slice p2 m2 c2)) 9 (.slice p2 m2 c2) (L.map bt ++ [A]) := hq4.kept fun k e => Below.heap_setCell _ _ _ _ fun e' => by
                    have e' : k = rb := e'
                    have := ho4 k e; have := hbw.out.size
                    omega
                  rw [List.map_append]
                  show Qs txL True w9 9 (.slice p2 m2 c2) (L.map bt ++ [bt A.data.toList])
                  rw [bt_back]
                  exact hq5.kept fun k e => hb9.block k (hq5.lt e)
        · obtain ⟨e1, e2, -⟩ := str_litR hY0
          have hem : Y.data.toList.isEmpty = false := by rw [Lib.toList_data] at e1; exact e1
          have HP : Hid (M = (501, none)) := by
            show M = (501, none)
            rw [HM1.out, hem, if_pos (by simp)]
          clear hY0 hem
          go_wp2_with fail
          refine (H501.out _).mono ?_
          rintro e w9 ⟨rfl, hb9⟩
          have hbl := hbw.out.trans (hb9.mono hbw.out.size)
          go_wp2
          go_ret
          exact rcpIs_same HX.out HP.out hbl
/-- what a line of a message leaves -/
def LinIs (w : World) (rb most fb : Nat) (kv : Value) (g h : Bool) (fr : ByteArray) (tv : Value) (lg : Bool) (b : List UInt8) (ov : Bool) (l : List UInt8) (e : Ending) (w' : World) : Prop :=
  Fr (Bk rb) w w' ∧ if (decide (l.getLast? = some 10) && decide (bareS l = [46])) = false then e = .returned (.string ⟨#[]⟩) ∧ RawR w' rb most fb kv g h fr tv true (lg || !decide (l.getLast? = some 10)) (bt (b ++ undot l)) false ov
    else if lg = true then e = .returned (.string (bt (repW 500))) ∧ RawR w' rb most fb kv g false ⟨#[]⟩ (.slice none 0 0) false lg (bt b) false ov
    else if most < b.length then e = .returned (.string (bt (repW 552))) ∧ RawR w' rb most fb kv g false ⟨#[]⟩ (.slice none 0 0) false lg (bt b) false ov
    else e = .returned (.string ⟨#[]⟩) ∧ RawR w' rb most fb kv g h fr tv false lg (bt b) true ov
theorem getLast_len {l : List UInt8} (h : l.getLast? = some 10) : l ≠ [] := fun e => by rw [e] at h; cases h
theorem undot_cons (c : UInt8) (r : List UInt8) : undot (c :: r) = if c = 46 then r else c :: r := by
  by_cases h : c = 46
  · subst h; rfl
  · rw [if_neg h]
    unfold undot
    split
    · rename_i heq
      injection heq with heq
      exact absurd heq h
    · rfl
theorem undot_drop {BB l : ByteArray} {b : List UInt8} (h : BB = bt b) (e3 : 0 < l.size) (hd : l[0] = 46) : BB ++ l.extract 1 l.size = bt (b ++ undot l.data.toList) := by
  have e : undot l.data.toList = (l.extract 1 l.size).data.toList := by rw [data_cons' l e3, undot_cons, if_pos hd]
  rw [e, ← bt_app, bt_back, h]
theorem undot_app {BB l : ByteArray} {b : List UInt8} (h : BB = bt b) (e3 : 0 < l.size) (hd : ¬ l[0] = 46) : BB ++ l = bt (b ++ undot l.data.toList) := by
  have e : undot l.data.toList = l.data.toList := by
    have h2 := data_cons' l e3
    generalize hq : l.data.toList = q at *
    rw [h2, undot_cons, if_neg hd]
  rw [e, ← bt_app, bt_back, h]
set_option maxHeartbeats 4000000 in
set_option maxRecDepth 100000 in
theorem lineR_any (l : ByteArray) (b : List UInt8) (hl : l.size ≤ 100000) (hb : b.length ≤ 100000000) (x : RawR w rb most fb kv g h fr tv true lg (bt b) false ov) :
    Calls Tryz.prog 41 #[.pointer (some ⟨rb, 0, none⟩), .string l] w (LinIs w rb most fb kv g h fr tv lg b ov l.data.toList) := by
  obtain ⟨BB, hBB, -, hBs⟩ := bt_ex b
  rw [← hBB] at x
  have HBB := Lib.hid (And.intro hBB (show BB.size ≤ 100000000 by omega))
  have c8 := x.cells.c8
  have f8 := x.frz 8
  have HX := Lib.hid x
  clear hBB hBs hb x
  by_cases hl0 : l = ⟨#[]⟩
  · obtain ⟨e1, e2⟩ := str_nilR hl0
    have HA := Lib.hid (show (decide (l.data.toList.getLast? = some 10) && decide (bareS l.data.toList = [46])) = false by rw [hl0]; decide)
    have HW := Lib.hid (show decide (l.data.toList.getLast? = some 10) = false by rw [hl0]; decide)
    have hE : Hid (BB ++ l = bt (b ++ undot l.data.toList)) := by
      rw [← bt_app, ← HBB.out.1, hl0]; rfl
    have u2 : ¬ 9223372036854775807 < BB.size + l.size := by have := HBB.out.2; omega
    clear hl0
    cases lg with
    | true =>
      have x8 := HX.out.set8 true
      have k9 := x8.cells.c9
      have z9 := x8.frz 9
      have HE := Lib.hid (And.intro (fun X => ((Fr.refl (Bk rb) w).setCell (b := rb) (o := 8) (by rfl) (.bool true)).setCell (b := rb) (o := 9) (by rfl) (.string X)) (fun X => x8.set9 X))
      clear x8
      go_enter Tryz.func41, Tryz.ntmps41
      go_wp2
      go_ret
      refine ⟨HE.out.1 _, ?_⟩
      rw [if_pos HA.out]
      refine ⟨rfl, ?_⟩
      rw [← hE.out]
      exact HE.out.2 _
    | false =>
      have x8 := HX.out.set8 true
      have k9 := x8.cells.c9
      have z9 := x8.frz 9
      have HE := Lib.hid (And.intro (fun X => ((Fr.refl (Bk rb) w).setCell (b := rb) (o := 8) (by rfl) (.bool true)).setCell (b := rb) (o := 9) (by rfl) (.string X)) (fun X => x8.set9 X))
      clear x8
      go_enter Tryz.func41, Tryz.ntmps41
      go_wp2
      go_ret
      refine ⟨HE.out.1 _, ?_⟩
      rw [if_pos HA.out, HW.out]
      refine ⟨rfl, ?_⟩
      rw [← hE.out]
      exact HE.out.2 _
  · obtain ⟨e1, e2, e3⟩ := str_litR hl0
    have t1 : (0 : Int) ≤ (l.size : Int) - 1 ∧ (l.size : Int) - 1 < (l.size : Int) := by omega
    have t2 : 1 ≤ (l.size : Int) ∧ (l.size : Int) - 1 < (l.size : Int) := by omega
    have t3 : l.size - 1 < l.size := by omega
    have t5 : (0 : Int) < (l.size : Int) := by omega
    have t4 : IntKind.i64.wrap ((l.size : Int) - 1) = (l.size : Int) - 1 := w64 rfl (by omega) (by omega)
    have hla := last_atR l e3
    clear hl0
    by_cases h10 : l[l.size - 1] = 10
    · have q1 : ((l[l.size - 1].toNat : Int) == 10) = true := by rw [h10]; rfl
      have HW : Hid (decide (l.data.toList.getLast? = some 10) = true) := decide_eq_true (by rw [hla, h10])
      have hbq := bareQ_anyR l w (by omega)
      obtain ⟨D, hD, hDd, -⟩ := bt_ex (bareS l.data.toList)
      rw [← hD] at hbq
      have hcm := cmp_lit D [46]
      rw [hDd] at hcm
      have HBq := Lib.hid hbq
      clear hbq hD hDd hla h10
      by_cases hdot : bareS l.data.toList = [46]
      · rw [decide_eq_true hdot] at hcm
        have HA : Hid ((decide (l.data.toList.getLast? = some 10) && decide (bareS l.data.toList = [46])) = true) := by rw [HW.out, decide_eq_true hdot]; rfl
        have x7 := HX.out.set7 false
        have c7 := HX.out.cells.c7
        have f7 := HX.out.frz 7
        have k8 := x7.cells.c8
        have k9 : (w.setCell ⟨rb, 7, none⟩ (.bool false)).drew.cell? ⟨rb, 9, none⟩ = some (.string BB) := x7.cells.c9
        have k0 : (w.setCell ⟨rb, 7, none⟩ (.bool false)).drew.cell? ⟨rb, 0, none⟩ = some (.int .i64 most) := x7.cells.c0
        have hF7 : Fr (Bk rb) w (w.setCell ⟨rb, 7, none⟩ (.bool false)) := (Fr.refl (Bk rb) w).setCell (by rfl) _
        have HX7 := Lib.hid (And.intro x7 hF7)
        clear hdot x7 hF7 c8 f8
        cases lg with
        | true =>
          have HZ := Lib.hid (anewR_any HX7.out.1)
          go_enter Tryz.func41, Tryz.ntmps41
          go_wp2_with fail
          refine HBq.out.mono ?_
          rintro e w1 ⟨rfl, rfl⟩
          go_wp2_with fail
          refine HZ.out.mono ?_
          rintro e w2 ⟨rfl, h2, f2⟩
          have HR := Lib.hid (rrep500 w2)
          have HY := Lib.hid (And.intro (HX7.out.2.trans f2 (fun _ e => .inl e)) h2)
          clear f2 h2
          go_wp2_with fail
          refine HR.out.mono ?_
          rintro e w3 ⟨rfl, hb3⟩
          go_wp2
          go_ret
          refine ⟨HY.out.1.then hb3, ?_⟩
          rw [if_neg (by rw [HA.out]; decide), if_pos rfl, ← HBB.out.1]
          exact ⟨rfl, HY.out.2.later hb3⟩
        | false =>
          have hbl : b.length = BB.size := by
            obtain ⟨A, e1, -, e3⟩ := bt_ex b
            rw [HBB.out.1, ← e1]; exact e3.symm
          by_cases hm : most < b.length
          · have q2 : decide ((most : Int) < (BB.size : Int)) = true := decide_eq_true (by omega)
            have q3 : most < BB.size := by omega
            have HZ := Lib.hid (anewR_any (w := (w.setCell ⟨rb, 7, none⟩ (.bool false)).drew) HX7.out.1)
            have HM := Lib.hid hm
            clear hbl hm
            go_enter Tryz.func41, Tryz.ntmps41
            go_wp2_with fail
            refine HBq.out.mono ?_
            rintro e w1 ⟨rfl, rfl⟩
            go_wp2_with fail
            refine wp_region_heldO (fun V => V.cell? ⟨rb, 9, none⟩ = some (.string BB) ∧ V.cell? ⟨rb, 0, none⟩ = some (.int .i64 most)) 10 (by kernel_rfl) rfl ⟨k9, k0⟩ (fun hHeld => ?_)
            refine takeO (v := ?_) 0 rfl (by kernel_rfl) (by kernel_rfl) (by kernel_rfl) (by rfl) ?_ hHeld ?_
            rotate_left
            · intro w hSw
              obtain ⟨hSw0, hSw1⟩ := hSw
              go_simp
              first | done | with_reducible rfl
            simp only [Act.put, List.setIfInBounds_toArray, List.set_cons_zero, List.set_cons_succ]
            refine takeO (v := ?_) 1 rfl (by kernel_rfl) (by kernel_rfl) (by kernel_rfl) (by rfl) ?_ hHeld ?_
            rotate_left
            · intro w hSw
              obtain ⟨hSw0, hSw1⟩ := hSw
              go_simp
              first | done | with_reducible rfl
            simp only [Act.put, List.setIfInBounds_toArray, List.set_cons_zero, List.set_cons_succ]
            refine takeO (v := ?_) 2 rfl (by kernel_rfl) (by kernel_rfl) (by kernel_rfl) (by rfl) ?_ hHeld ?_
            rotate_left
            · intro w hSw
              obtain ⟨hSw0, hSw1⟩ := hSw
              go_simp
              first | done | with_reducible rfl
            simp only [Act.put, List.setIfInBounds_toArray, List.set_cons_zero, List.set_cons_succ]
            refine takeO (v := ?_) 3 rfl (by kernel_rfl) (by kernel_rfl) (by kernel_rfl) (by rfl) ?_ hHeld ?_
            rotate_left
            · intro w hSw
              obtain ⟨hSw0, hSw1⟩ := hSw
              go_simp
              first | done | with_reducible rfl
            simp only [Act.put, List.setIfInBounds_toArray, List.set_cons_zero, List.set_cons_succ]
            refine takeO (v := ?_) 4 rfl (by kernel_rfl) (by kernel_rfl) (by kernel_rfl) (by rfl) ?_ hHeld ?_
            rotate_left
            · intro w hSw
              obtain ⟨hSw0, hSw1⟩ := hSw
              go_simp
              first | done | with_reducible rfl
            simp only [Act.put, List.setIfInBounds_toArray, List.set_cons_zero, List.set_cons_succ]
            refine takeO (v := ?_) 5 rfl (by kernel_rfl) (by kernel_rfl) (by kernel_rfl) (by rfl) ?_ hHeld ?_
            rotate_left
            · intro w hSw
              obtain ⟨hSw0, hSw1⟩ := hSw
              go_simp
              first | done | with_reducible rfl
            simp only [Act.put, List.setIfInBounds_toArray, List.set_cons_zero, List.set_cons_succ]
            refine takeO (v := ?_) 6 rfl (by kernel_rfl) (by kernel_rfl) (by kernel_rfl) (by rfl) ?_ hHeld ?_
            rotate_left
            · intro w hSw
              obtain ⟨hSw0, hSw1⟩ := hSw
              go_simp
              first | done | with_reducible rfl
            simp only [Act.put, List.setIfInBounds_toArray, List.set_cons_zero, List.set_cons_succ]
            refine takeO (v := ?_) 7 rfl (by kernel_rfl) (by kernel_rfl) (by kernel_rfl) (by rfl) ?_ hHeld ?_
            rotate_left
            · intro w hSw
              obtain ⟨hSw0, hSw1⟩ := hSw
              go_simp
              first | done | with_reducible rfl
            simp only [Act.put, List.setIfInBounds_toArray, List.set_cons_zero, List.set_cons_succ]
            refine takeO (v := ?_) 8 rfl (by kernel_rfl) (by kernel_rfl) (by kernel_rfl) (by rfl) ?_ hHeld ?_
            rotate_left
            · intro w hSw
              obtain ⟨hSw0, hSw1⟩ := hSw
              go_simp
              first | done | with_reducible rfl
            simp only [Act.put, List.setIfInBounds_toArray, List.set_cons_zero, List.set_cons_succ]
            refine takeO (v := ?_) 9 rfl (by kernel_rfl) (by kernel_rfl) (by kernel_rfl) (by rfl) ?_ hHeld ?_
            rotate_left
            · intro w hSw
              obtain ⟨hSw0, hSw1⟩ := hSw
              go_simp
              first | done | with_reducible rfl
            simp only [Act.put, List.setIfInBounds_toArray, List.set_cons_zero, List.set_cons_succ]
            refine doneO (by kernel_rfl) ?_
            go_wp2_with fail
            refine HZ.out.mono ?_
            rintro e w2 ⟨rfl, h2, f2⟩
            have HR := Lib.hid (rrep552 w2)
            have HY := Lib.hid (And.intro (HX7.out.2.drew.trans f2 (fun _ e => .inl e)) h2)
            clear f2 h2
            go_wp2_with fail
            refine HR.out.mono ?_
            rintro e w3 ⟨rfl, hb3⟩
            go_wp2
            go_ret
            refine ⟨HY.out.1.then hb3, ?_⟩
            rw [if_neg (by rw [HA.out]; decide), if_neg (by decide), if_pos HM.out, ← HBB.out.1]
            exact ⟨rfl, HY.out.2.later hb3⟩
          · have q2 : decide ((most : Int) < (BB.size : Int)) = false := decide_eq_false (by omega)
            have q3 : ¬ most < BB.size := by omega
            have HM := Lib.hid hm
            have k10 : (w.setCell ⟨rb, 7, none⟩ (.bool false)).drew.cell? ⟨rb, 10, none⟩ = some (.bool false) := HX7.out.1.cells.c10
            have z10 : (w.setCell ⟨rb, 7, none⟩ (.bool false)).drew.frozen? ⟨rb, 10, none⟩ = false := HX7.out.1.frz 10
            have hx10 : RawR ((w.setCell ⟨rb, 7, none⟩ (.bool false)).drew.setCell ⟨rb, 10, none⟩ (.bool true)) rb most fb kv g h fr tv false false BB true ov := RawR.set10 (w := (w.setCell ⟨rb, 7, none⟩ (.bool false)).drew) HX7.out.1 true
            have HY := Lib.hid (And.intro (HX7.out.2.drew.setCell (b := rb) (o := 10) (by rfl) (.bool true)) hx10)
            clear hbl hm hx10
            go_enter Tryz.func41, Tryz.ntmps41
            go_wp2_with fail
            refine HBq.out.mono ?_
            rintro e w1 ⟨rfl, rfl⟩
            go_wp2_with fail
            refine wp_region_heldO (fun V => V.cell? ⟨rb, 9, none⟩ = some (.string BB) ∧ V.cell? ⟨rb, 0, none⟩ = some (.int .i64 most)) 10 (by kernel_rfl) rfl ⟨k9, k0⟩ (fun hHeld => ?_)
            refine takeO (v := ?_) 0 rfl (by kernel_rfl) (by kernel_rfl) (by kernel_rfl) (by rfl) ?_ hHeld ?_
            rotate_left
            · intro w hSw
              obtain ⟨hSw0, hSw1⟩ := hSw
              go_simp
              first | done | with_reducible rfl
            simp only [Act.put, List.setIfInBounds_toArray, List.set_cons_zero, List.set_cons_succ]
            refine takeO (v := ?_) 1 rfl (by kernel_rfl) (by kernel_rfl) (by kernel_rfl) (by rfl) ?_ hHeld ?_
            rotate_left
            · intro w hSw
              obtain ⟨hSw0, hSw1⟩ := hSw
              go_simp
              first | done | with_reducible rfl
            simp only [Act.put, List.setIfInBounds_toArray, List.set_cons_zero, List.set_cons_succ]
            refine takeO (v := ?_) 2 rfl (by kernel_rfl) (by kernel_rfl) (by kernel_rfl) (by rfl) ?_ hHeld ?_
            rotate_left
            · intro w hSw
              obtain ⟨hSw0, hSw1⟩ := hSw
              go_simp
              first | done | with_reducible rfl
            simp only [Act.put, List.setIfInBounds_toArray, List.set_cons_zero, List.set_cons_succ]
            refine takeO (v := ?_) 3 rfl (by kernel_rfl) (by kernel_rfl) (by kernel_rfl) (by rfl) ?_ hHeld ?_
            rotate_left
            · intro w hSw
              obtain ⟨hSw0, hSw1⟩ := hSw
              go_simp
              first | done | with_reducible rfl
            simp only [Act.put, List.setIfInBounds_toArray, List.set_cons_zero, List.set_cons_succ]
            refine takeO (v := ?_) 4 rfl (by kernel_rfl) (by kernel_rfl) (by kernel_rfl) (by rfl) ?_ hHeld ?_
            rotate_left
            · intro w hSw
              obtain ⟨hSw0, hSw1⟩ := hSw
              go_simp
              first | done | with_reducible rfl
            simp only [Act.put, List.setIfInBounds_toArray, List.set_cons_zero, List.set_cons_succ]
            refine takeO (v := ?_) 5 rfl (by kernel_rfl) (by kernel_rfl) (by kernel_rfl) (by rfl) ?_ hHeld ?_
            rotate_left
            · intro w hSw
              obtain ⟨hSw0, hSw1⟩ := hSw
              go_simp
              first | done | with_reducible rfl
            simp only [Act.put, List.setIfInBounds_toArray, List.set_cons_zero, List.set_cons_succ]
            refine takeO (v := ?_) 6 rfl (by kernel_rfl) (by kernel_rfl) (by kernel_rfl) (by rfl) ?_ hHeld ?_
            rotate_left
            · intro w hSw
              obtain ⟨hSw0, hSw1⟩ := hSw
              go_simp
              first | done | with_reducible rfl
            simp only [Act.put, List.setIfInBounds_toArray, List.set_cons_zero, List.set_cons_succ]
            refine takeO (v := ?_) 7 rfl (by kernel_rfl) (by kernel_rfl) (by kernel_rfl) (by rfl) ?_ hHeld ?_
            rotate_left
            · intro w hSw
              obtain ⟨hSw0, hSw1⟩ := hSw
              go_simp
              first | done | with_reducible rfl
            simp only [Act.put, List.setIfInBounds_toArray, List.set_cons_zero, List.set_cons_succ]
            refine takeO (v := ?_) 8 rfl (by kernel_rfl) (by kernel_rfl) (by kernel_rfl) (by rfl) ?_ hHeld ?_
            rotate_left
            · intro w hSw
              obtain ⟨hSw0, hSw1⟩ := hSw
              go_simp
              first | done | with_reducible rfl
            simp only [Act.put, List.setIfInBounds_toArray, List.set_cons_zero, List.set_cons_succ]
            refine takeO (v := ?_) 9 rfl (by kernel_rfl) (by kernel_rfl) (by kernel_rfl) (by rfl) ?_ hHeld ?_
            rotate_left
            · intro w hSw
              obtain ⟨hSw0, hSw1⟩ := hSw
              go_simp
              first | done | with_reducible rfl
            simp only [Act.put, List.setIfInBounds_toArray, List.set_cons_zero, List.set_cons_succ]
            refine doneO (by kernel_rfl) ?_
            go_wp2
            go_ret
            refine ⟨HY.out.1, ?_⟩
            rw [if_neg (by rw [HA.out]; decide), if_neg (by decide), if_neg HM.out, ← HBB.out.1]
            exact ⟨rfl, HY.out.2⟩
      · rw [decide_eq_false hdot] at hcm
        have HA : Hid ((decide (l.data.toList.getLast? = some 10) && decide (bareS l.data.toList = [46])) = false) := by rw [HW.out, decide_eq_false hdot]; rfl
        clear hdot
        cases lg with
        | true =>
          have x8 := HX.out.set8 true
          have k9 := x8.cells.c9
          have z9 := x8.frz 9
          have HE := Lib.hid (And.intro (fun X => ((Fr.refl (Bk rb) w).setCell (b := rb) (o := 8) (by rfl) (.bool true)).setCell (b := rb) (o := 9) (by rfl) (.string X)) (fun X => x8.set9 X))
          clear x8
          go_enter Tryz.func41, Tryz.ntmps41
          go_wp2_with fail
          refine HBq.out.mono ?_
          rintro e w1 ⟨rfl, rfl⟩
          by_cases hd : l[0] = 46
          · have q5 : ((l[0].toNat : Int) == 46) = true := by rw [hd]; rfl
            have u1 : (1 : Int) ≤ (l.size : Int) := by omega
            have hz : (l.extract 1 l.size).size ≤ 100000 := by rw [ByteArray.size_extract]; omega
            have u2 : ¬ 9223372036854775807 < BB.size + (l.extract 1 l.size).size := by have := HBB.out.2; omega
            have hE := Lib.hid (undot_drop HBB.out.1 e3 hd)
            clear hd hz
            go_wp2
            go_ret
            refine ⟨HE.out.1 _, ?_⟩
            rw [if_pos HA.out]
            refine ⟨rfl, ?_⟩
            rw [← hE.out]
            exact HE.out.2 _
          · have q5 : ((l[0].toNat : Int) == 46) = false := beq_eq_false_iff_ne.2 (fun e => hd (UInt8.toNat_inj.1 (by rw [show (46 : UInt8).toNat = 46 from rfl]; omega)))
            have u2 : ¬ 9223372036854775807 < BB.size + l.size := by have := HBB.out.2; omega
            have hE := Lib.hid (undot_app HBB.out.1 e3 hd)
            clear hd
            go_wp2
            go_ret
            refine ⟨HE.out.1 _, ?_⟩
            rw [if_pos HA.out]
            refine ⟨rfl, ?_⟩
            rw [← hE.out]
            exact HE.out.2 _
        | false =>
          have x8 := HX.out.set8 false
          have k9 := x8.cells.c9
          have z9 := x8.frz 9
          have HE := Lib.hid (And.intro (fun X => ((Fr.refl (Bk rb) w).setCell (b := rb) (o := 8) (by rfl) (.bool false)).setCell (b := rb) (o := 9) (by rfl) (.string X)) (fun X => x8.set9 X))
          clear x8
          go_enter Tryz.func41, Tryz.ntmps41
          go_wp2_with fail
          refine HBq.out.mono ?_
          rintro e w1 ⟨rfl, rfl⟩
          by_cases hd : l[0] = 46
          · have q5 : ((l[0].toNat : Int) == 46) = true := by rw [hd]; rfl
            have u1 : (1 : Int) ≤ (l.size : Int) := by omega
            have hz : (l.extract 1 l.size).size ≤ 100000 := by rw [ByteArray.size_extract]; omega
            have u2 : ¬ 9223372036854775807 < BB.size + (l.extract 1 l.size).size := by have := HBB.out.2; omega
            have hE := Lib.hid (undot_drop HBB.out.1 e3 hd)
            clear hd hz
            go_wp2
            go_ret
            refine ⟨HE.out.1 _, ?_⟩
            rw [if_pos HA.out, HW.out]
            refine ⟨rfl, ?_⟩
            rw [← hE.out]
            exact HE.out.2 _
          · have q5 : ((l[0].toNat : Int) == 46) = false := beq_eq_false_iff_ne.2 (fun e => hd (UInt8.toNat_inj.1 (by rw [show (46 : UInt8).toNat = 46 from rfl]; omega)))
            have u2 : ¬ 9223372036854775807 < BB.size + l.size := by have := HBB.out.2; omega
            have hE := Lib.hid (undot_app HBB.out.1 e3 hd)
            clear hd
            go_wp2
            go_ret
            refine ⟨HE.out.1 _, ?_⟩
            rw [if_pos HA.out, HW.out]
            refine ⟨rfl, ?_⟩
            rw [← hE.out]
            exact HE.out.2 _
    · have q1 : ((l[l.size - 1].toNat : Int) == 10) = false := beq_eq_false_iff_ne.2 (fun e => h10 (UInt8.toNat_inj.1 (by rw [show (10 : UInt8).toNat = 10 from rfl]; omega)))
      have HW : Hid (decide (l.data.toList.getLast? = some 10) = false) := decide_eq_false (by rw [hla]; intro e; injection e with e; exact h10 e)
      have HA : Hid ((decide (l.data.toList.getLast? = some 10) && decide (bareS l.data.toList = [46])) = false) := by rw [HW.out]; rfl
      clear hla h10
      cases lg with
      | true =>
        have x8 := HX.out.set8 true
        have k9 := x8.cells.c9
        have z9 := x8.frz 9
        have HE := Lib.hid (And.intro (fun X => ((Fr.refl (Bk rb) w).setCell (b := rb) (o := 8) (by rfl) (.bool true)).setCell (b := rb) (o := 9) (by rfl) (.string X)) (fun X => x8.set9 X))
        clear x8
        go_enter Tryz.func41, Tryz.ntmps41
        by_cases hd : l[0] = 46
        · have q5 : ((l[0].toNat : Int) == 46) = true := by rw [hd]; rfl
          have u1 : (1 : Int) ≤ (l.size : Int) := by omega
          have hz : (l.extract 1 l.size).size ≤ 100000 := by rw [ByteArray.size_extract]; omega
          have u2 : ¬ 9223372036854775807 < BB.size + (l.extract 1 l.size).size := by have := HBB.out.2; omega
          have hE := Lib.hid (undot_drop HBB.out.1 e3 hd)
          clear hd hz
          go_wp2
          go_ret
          refine ⟨HE.out.1 _, ?_⟩
          rw [if_pos HA.out]
          refine ⟨rfl, ?_⟩
          rw [← hE.out]
          exact HE.out.2 _
        · have q5 : ((l[0].toNat : Int) == 46) = false := beq_eq_false_iff_ne.2 (fun e => hd (UInt8.toNat_inj.1 (by rw [show (46 : UInt8).toNat = 46 from rfl]; omega)))
          have u2 : ¬ 9223372036854775807 < BB.size + l.size := by have := HBB.out.2; omega
          have hE := Lib.hid (undot_app HBB.out.1 e3 hd)
          clear hd
          go_wp2
          go_ret
          refine ⟨HE.out.1 _, ?_⟩
          rw [if_pos HA.out]
          refine ⟨rfl, ?_⟩
          rw [← hE.out]
          exact HE.out.2 _
      | false =>
        have x8 := HX.out.set8 true
        have k9 := x8.cells.c9
        have z9 := x8.frz 9
        have HE := Lib.hid (And.intro (fun X => ((Fr.refl (Bk rb) w).setCell (b := rb) (o := 8) (by rfl) (.bool true)).setCell (b := rb) (o := 9) (by rfl) (.string X)) (fun X => x8.set9 X))
        clear x8
        go_enter Tryz.func41, Tryz.ntmps41
        by_cases hd : l[0] = 46
        · have q5 : ((l[0].toNat : Int) == 46) = true := by rw [hd]; rfl
          have u1 : (1 : Int) ≤ (l.size : Int) := by omega
          have hz : (l.extract 1 l.size).size ≤ 100000 := by rw [ByteArray.size_extract]; omega
          have u2 : ¬ 9223372036854775807 < BB.size + (l.extract 1 l.size).size := by have := HBB.out.2; omega
          have hE := Lib.hid (undot_drop HBB.out.1 e3 hd)
          clear hd hz
          go_wp2
          go_ret
          refine ⟨HE.out.1 _, ?_⟩
          rw [if_pos HA.out, HW.out]
          refine ⟨rfl, ?_⟩
          rw [← hE.out]
          exact HE.out.2 _
        · have q5 : ((l[0].toNat : Int) == 46) = false := beq_eq_false_iff_ne.2 (fun e => hd (UInt8.toNat_inj.1 (by rw [show (46 : UInt8).toNat = 46 from rfl]; omega)))
          have u2 : ¬ 9223372036854775807 < BB.size + l.size := by have := HBB.out.2; omega
          have hE := Lib.hid (undot_app HBB.out.1 e3 hd)
          clear hd
          go_wp2
          go_ret
          refine ⟨HE.out.1 _, ?_⟩
          rw [if_pos HA.out, HW.out]
          refine ⟨rfl, ?_⟩
          rw [← hE.out]
          exact HE.out.2 _
end
end Go.Proofs.YtjoipgekmnnlpaaGreatDoor
