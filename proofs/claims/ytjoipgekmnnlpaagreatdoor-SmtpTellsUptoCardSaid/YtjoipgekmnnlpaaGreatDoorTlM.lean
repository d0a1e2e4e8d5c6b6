/- Walks: the reference of layer 22: MAIL, RCPT, a line of a message. -/
import Derived.Test.YtjoipgekmnnlpaaGreatDoorTlCG
import Derived.Test.YtjoipgekmnnlpaaGreatDoorSmV
namespace Sm
open Go
theorem pathW_parts {l a y : List UInt8} (h : pathW l = some (a, y)) (hn : NT l) : NT y ∧ a.length + y.length ≤ l.length := by
  cases l with
  | nil => cases h
  | cons c l =>
    have h : (if c = 60 ∧ (l.dropWhile (fun c => decide (c ≠ 62))) ≠ [] ∧ (l.takeWhile (fun c => decide (c ≠ 62))).all okA = true then some (l.takeWhile (fun c => decide (c ≠ 62)), (l.dropWhile (fun c => decide (c ≠ 62))).tail) else none) = some (a, y) := h
    split at h
    · injection h with h
      injection h with h1 h2
      have hl : NT l := nt_suffix (a := [c]) hn
      have hd := nt_dropWhile hl (fun c => decide (c ≠ 62))
      have hlen := congrArg List.length (List.takeWhile_append_dropWhile (p := fun c => decide (c ≠ 62)) (l := l))
      rw [List.length_append] at hlen
      refine ⟨?_, ?_⟩
      · rw [← h2]
        cases hx : l.dropWhile (fun c => decide (c ≠ 62)) with
        | nil => intro c hc; cases hc
        | cons d r => rw [hx] at hd; exact nt_suffix (a := [d]) hd
      · rw [← h1, ← h2, List.length_tail, List.length_cons]; omega
    · cases h
theorem path2_eq {k l : List UInt8} (hn : NT l) : path2 k l = (beginW k l).bind fun x => pathW (trimW x) := by
  unfold path2
  cases h : beginW k l with
  | none => rfl
  | some x =>
    have hx : NT x := by
      unfold beginW at h
      split at h
      · injection h with h
        rw [← h]; exact nt_drop hn _
      · cases h
    show pathW (x.dropWhile blk) = pathW (trimW x)
    rw [trimW_nt hx]
theorem beginW_nt {k l x : List UInt8} (hn : NT l) (h : beginW k l = some x) : NT x ∧ x.length ≤ l.length := by
  unfold beginW at h
  split at h
  · injection h with h
    rw [← h]; exact ⟨nt_drop hn _, by rw [List.length_drop]; omega⟩
  · cases h
end Sm
namespace Go.Proofs.YtjoipgekmnnlpaaGreatDoor
open Go.RowKit Go.Shelf Go.Lib Pk Hx C1 Sm

section
variable {w w' : World} {rb most fb : Nat} {kv tv : Value} {g h tk lg wt ov : Bool} {fr B : ByteArray}
theorem trim_nil (w : World) : Calls Tryz.prog 73 #[.string ⟨#[]⟩] w fun e w' => e = .returned (.string ⟨#[]⟩) ∧ w' = w := rtrimS_any ⟨#[]⟩ w (by decide)
theorem path_nil (w : World) : Calls Tryz.prog 100 #[.string ⟨#[]⟩] w fun e w' => e = .returned (.tuple #[.string ⟨#[]⟩, .string ⟨#[]⟩, .bool false]) ∧ Below w.heap.size w w' := rpath_any ⟨#[]⟩ w (by decide)
/-- a keyword and a path: what behind, trim and path answer -/
structure PthC (w : World) (k rest X T A Y : ByteArray) (one two : Bool) : Prop where
  beh : Calls Tryz.prog 99 #[.string rest, .string k] w fun e w' => e = .returned (.tuple #[.string X, .bool one]) ∧ Below w.heap.size w w'
  tri : ∀ w, Calls Tryz.prog 73 #[.string X] w fun e w' => e = .returned (.string T) ∧ w' = w
  pat : ∀ w, Calls Tryz.prog 100 #[.string T] w fun e w' => e = .returned (.tuple #[.string A, .string Y, .bool two]) ∧ Below w.heap.size w w'
  sA : A.size ≤ 100000
  sY : Y.size ≤ 100000
  nt : NT Y.data.toList
  eq : path2 k.data.toList rest.data.toList = if (one && two) = true then some (A.data.toList, Y.data.toList) else none
theorem path_calls (k rest : ByteArray) (w : World) (hk : k.size ≤ 1000) (hl : rest.size ≤ 100000) (hn : NT rest.data.toList) : ∃ X T A Y one two, PthC w k rest X T A Y one two := by
  have hrl : rest.data.toList.length = rest.size := rfl
  have hbh := behind_any rest k w (by omega) hk
  have hp2 := path2_eq (k := k.data.toList) hn
  have hnil : NT (⟨#[]⟩ : ByteArray).data.toList := fun c hc => by cases hc
  cases hbg : beginW k.data.toList rest.data.toList with
  | none =>
    rw [hbg] at hp2 hbh
    rw [behV_none] at hbh
    exact ⟨⟨#[]⟩, ⟨#[]⟩, ⟨#[]⟩, ⟨#[]⟩, false, false, hbh, trim_nil, path_nil, Nat.zero_le _, Nat.zero_le _, hnil, hp2⟩
  | some z =>
    obtain ⟨hzn, hzl⟩ := beginW_nt hn hbg
    rw [hbg] at hp2 hbh
    replace hp2 : path2 k.data.toList rest.data.toList = pathW (trimW z) := hp2
    obtain ⟨Z, hZ, hZd, hZs⟩ := bt_ex z
    rw [behV_some, ← hZ] at hbh
    have htr := fun w => rtrimS_any Z w (by omega)
    obtain ⟨T, hT, hTd, hTs⟩ := bt_ex (trimW z)
    rw [hZd, ← hT] at htr
    have hTl := trimW_lenR z
    have hpa := fun w => rpath_any T w (by omega)
    rw [hTd] at hpa
    cases hpw : pathW (trimW z) with
    | none =>
      rw [hpw] at hpa hp2
      rw [pathV_none] at hpa
      exact ⟨Z, T, ⟨#[]⟩, ⟨#[]⟩, true, false, hbh, htr, hpa, Nat.zero_le _, Nat.zero_le _, hnil, hp2⟩
    | some q =>
      obtain ⟨a, y⟩ := q
      obtain ⟨hyn, hyl⟩ := pathW_parts hpw (nt_trim z)
      rw [hpw] at hpa hp2
      rw [pathV_some] at hpa
      obtain ⟨A, hA, hAd, hAs⟩ := bt_ex a
      obtain ⟨Y, hY, hYd, hYs⟩ := bt_ex y
      simp only [← hA, ← hY] at hpa
      exact ⟨Z, T, A, Y, true, true, hbh, htr, hpa, by omega, by omega, by rw [hYd]; exact hyn, by rw [hp2, hAd, hYd]; rfl⟩
/-- what MAIL leaves -/
def MaiP (w w' : World) (rb most fb : Nat) (kv : Value) (g h : Bool) (fr : ByteArray) (tv : Value) (tk lg : Bool) (B : ByteArray) (wt ov : Bool) (p : Nat × Option (List UInt8)) : Prop :=
  Fr (Bk rb) w w' ∧ match p.2 with
    | none => RawR w' rb most fb kv g h fr tv tk lg B wt ov
    | some a => RawR w' rb most fb kv g true (bt a) tv tk lg B wt ov
def MaiIs (w : World) (rb most fb : Nat) (kv : Value) (g h : Bool) (fr : ByteArray) (tv : Value) (tk lg : Bool) (B : ByteArray) (wt ov : Bool) (p : Nat × Option (List UInt8)) (e : Ending) (w' : World) : Prop :=
  e = .returned (.string (bt (repW p.1))) ∧ MaiP w w' rb most fb kv g h fr tv tk lg B wt ov p
theorem maiIs_same (x : RawR w rb most fb kv g h fr tv tk lg B wt ov) {n : Nat} {p : Nat × Option (List UInt8)} (hp : p = (n, none)) {w' : World} (hb : Below w.heap.size w w') : MaiIs w rb most fb kv g h fr tv tk lg B wt ov p (.returned (.string (bt (repW n)))) w' := by
  subst hp
  exact ⟨rfl, Fr.of_below hb, x.later hb⟩
set_option maxHeartbeats 4000000 in
set_option maxRecDepth 100000 in
theorem mailR_any (rest : ByteArray) (hl : rest.size ≤ 100000) (hn : NT rest.data.toList) (x : RawR w rb most fb kv g h fr tv tk lg B wt ov) :
    Calls Tryz.prog 76 #[.pointer (some ⟨rb, 0, none⟩), .string rest] w (MaiIs w rb most fb kv g h fr tv tk lg B wt ov (mailC most g h rest.data.toList)) := by
  have c3 := x.cells.c3
  have c4 := x.cells.c4
  have HX := Lib.hid x
  by_cases hgh : (!g || h) = true
  · have HP : Hid (mailC most g h rest.data.toList = (503, none)) := by unfold mailC; rw [if_pos hgh]; rfl
    have HR := Lib.hid (rrep503 w)
    clear x hn
    cases g with
    | false =>
      clear hgh
      go_enter Tryz.func76, Tryz.ntmps76
      go_wp2_with fail
      refine HR.out.mono ?_
      rintro e w1 ⟨rfl, hb1⟩
      go_wp2
      go_ret
      exact maiIs_same HX.out HP.out hb1
    | true =>
      cases h with
      | false => exact absurd hgh (by decide)
      | true =>
        clear hgh
        go_enter Tryz.func76, Tryz.ntmps76
        go_wp2_with fail
        refine HR.out.mono ?_
        rintro e w1 ⟨rfl, hb1⟩
        go_wp2
        go_ret
        exact maiIs_same HX.out HP.out hb1
  · obtain ⟨rfl, rfl⟩ : g = true ∧ h = false := by
      cases g <;> cases h <;> first | exact ⟨rfl, rfl⟩ | exact absurd rfl hgh
    have H501 := Lib.hid (fun w => rrep501 w)
    obtain ⟨X, T, A, Y, one, two, hC⟩ := path_calls ⟨#[70, 82, 79, 77, 58]⟩ rest w (by decide) hl hn
    have hmc : mailC most true false rest.data.toList = match (if (one && two) = true then some (A.data.toList, Y.data.toList) else none) with
      | none => (501, none)
      | some (a, y) =>
        if ((!a.isEmpty && !mayW a) || hdB y) = true then (501, none) else
        match optsW y.length y false false 0 with
        | none => (501, none)
        | some n => if most < n then (552, none) else (250, some a) := by
      rw [← hC.eq]
      unfold mailC; rw [if_neg hgh]; rfl
    obtain ⟨M, hM⟩ : ∃ M, M = mailC most true false rest.data.toList := ⟨_, rfl⟩
    rw [← hM] at hmc ⊢
    have HM := Lib.hid hmc
    have HBh := Lib.hid hC.beh
    have HTr := Lib.hid hC.tri
    have HPa := Lib.hid hC.pat
    have HGv := Lib.hid (fun w => given_any Y w (by have := hC.sY; omega) hC.nt)
    have HMy := Lib.hid (fun w => rmay_any A w (by have := hC.sA; omega))
    clear x hn hgh hM hmc hC
    go_enter Tryz.func76, Tryz.ntmps76
    go_wp2_with fail
    refine HBh.out.mono ?_
    rintro e w1 ⟨rfl, hb1⟩
    go_wp2_with fail
    refine (HTr.out _).mono ?_
    rintro e w2 ⟨rfl, rfl⟩
    go_wp2_with fail
    refine (HPa.out _).mono ?_
    rintro e w3 ⟨rfl, hb3⟩
    go_wp2_with fail
    refine (HGv.out _).mono ?_
    rintro e w4 ⟨K, Bo, rfl, hKB, hb4⟩
    have hbw := Lib.hid ((hb1.trans (hb3.mono hb1.size)).trans (hb4.mono (Nat.le_trans hb1.size hb3.size)))
    have HKB := Lib.hid hKB
    clear hb1 hb3 hb4 hKB c3 c4
    cases one with
    | false =>
      have HP : Hid (M = (501, none)) := HM.out
      go_wp2_with fail
      refine (H501.out _).mono ?_
      rintro e w9 ⟨rfl, hb9⟩
      have hbl := hbw.out.trans (hb9.mono hbw.out.size)
      go_wp2
      go_ret
      exact maiIs_same HX.out HP.out hbl
    | true =>
      cases two with
      | false =>
        have HP : Hid (M = (501, none)) := HM.out
        go_wp2_with fail
        refine (H501.out _).mono ?_
        rintro e w9 ⟨rfl, hb9⟩
        have hbl := hbw.out.trans (hb9.mono hbw.out.size)
        go_wp2
        go_ret
        exact maiIs_same HX.out HP.out hbl
      | true =>
        have HM1 : Hid (M = (if ((!A.data.toList.isEmpty && !mayW A.data.toList) || hdB Y.data.toList) = true then (501, none) else
          match optsW Y.data.toList.length Y.data.toList false false 0 with
          | none => (501, none)
          | some n => if most < n then (552, none) else (250, some A.data.toList))) := HM.out
        clear HM
        cases Bo with
        | false =>
          have hKB : givW Y.data.toList = none := HKB.out
          have HP : Hid (M = (501, none)) := by
            show M = (501, none)
            rw [HM1.out]
            unfold givW at hKB
            by_cases hd : hdB Y.data.toList = true
            · rw [if_pos (by rw [hd]; simp)]
            · rw [if_neg hd] at hKB
              split
              · rfl
              · rw [hKB]
          clear hKB
          go_wp2_with fail
          refine (H501.out _).mono ?_
          rintro e w9 ⟨rfl, hb9⟩
          have hbl := hbw.out.trans (hb9.mono hbw.out.size)
          go_wp2
          go_ret
          exact maiIs_same HX.out HP.out hbl
        | true =>
          have hKB : givW Y.data.toList = some K := HKB.out
          have hop : hdB Y.data.toList = false ∧ optsW Y.data.toList.length Y.data.toList false false 0 = some K := by
            unfold givW at hKB
            by_cases hd : hdB Y.data.toList = true
            · rw [if_pos hd] at hKB; cases hKB
            · rw [if_neg hd] at hKB
              exact ⟨by simpa using hd, hKB⟩
          have hm2 := HM1.out
          rw [hop.1, hop.2, Bool.or_false] at hm2
          have HM2 : Hid (M = if (!A.data.toList.isEmpty && !mayW A.data.toList) = true then (501, none) else if most < K then (552, none) else (250, some A.data.toList)) := hm2
          clear hKB hop hm2 HKB HM1
          have rx := HX.out.later hbw.out
          have d0 := rx.cells.c0
          have d4 := rx.cells.c4
          have d5 := rx.cells.c5
          have f4 := rx.frz 4
          have f5 := rx.frz 5
          have HRx := Lib.hid rx
          clear rx
          by_cases hae : A = ⟨#[]⟩
          · obtain ⟨e1, e2⟩ := str_nilR hae
            have HM3 : Hid (M = (if most < K then (552, none) else (250, some A.data.toList))) := by
              show M = (if most < K then (552, none) else (250, some A.data.toList))
              have h9 := HM2.out
              rw [if_neg (by rw [hae]; decide)] at h9
              exact h9
            clear hae HMy
            by_cases hK : most < K
            ·
              have hm3 := HM3.out
              rw [if_pos hK] at hm3
              have HP := Lib.hid (show M = (552, none) from hm3)
              have q1 : decide ((most : Int) < (K : Int)) = true := decide_eq_true (by omega)
              have q2 : decide (most < K) = true := decide_eq_true hK
              have HR := Lib.hid (fun w => rrep552 w)
              clear hm3
              go_wp2_with fail
              refine (HR.out _).mono ?_
              rintro e w9 ⟨rfl, hb9⟩
              have hbl := hbw.out.trans (hb9.mono hbw.out.size)
              go_wp2
              go_ret
              exact maiIs_same HX.out HP.out hbl
            ·
              have hm3 := HM3.out
              rw [if_neg hK] at hm3
              have HP := Lib.hid (show M = (250, some A.data.toList) from hm3)
              have q1 : decide ((most : Int) < (K : Int)) = false := decide_eq_false (by omega)
              have q2 : decide (most < K) = false := decide_eq_false hK
              have HR := Lib.hid (fun w => rrep250 w)
              clear hm3
              go_wp2_with fail
              refine (HR.out _).mono ?_
              rintro e w9 ⟨rfl, hb9⟩
              go_wp2
              go_ret
              rw [HP.out]
              have hy := (HRx.out.set4 true).set5 A
              have f := ((Fr.of_below (X := Bk rb) hbw.out).setCell (b := rb) (o := 4) (by rfl) (.bool true)).setCell (b := rb) (o := 5) (by rfl) (.string A)
              refine ⟨rfl, f.then hb9, ?_⟩
              show RawR w9 rb most fb kv true true (bt A.data.toList) tv tk lg B wt ov
              rw [bt_back]
              exact hy.later hb9
          · obtain ⟨e1, e2, -⟩ := str_litR hae
            have hem : A.data.toList.isEmpty = false := by rw [Lib.toList_data] at e1; exact e1
            have hmy := HMy.out w4
            cases hmw : mayW A.data.toList with
            | false =>
              rw [hmw] at hmy
              have HMy2 := Lib.hid hmy
              have HP : Hid (M = (501, none)) := by
                show M = (501, none)
                rw [HM2.out, hem, hmw, if_pos (by decide)]
              clear hae hmy hmw hem HMy
              go_wp2_with fail
              refine HMy2.out.mono ?_
              rintro e w5 ⟨rfl, rfl⟩
              go_wp2_with fail
              refine (H501.out _).mono ?_
              rintro e w9 ⟨rfl, hb9⟩
              have hbl := hbw.out.trans (hb9.mono hbw.out.size)
              go_wp2
              go_ret
              exact maiIs_same HX.out HP.out hbl
            | true =>
              rw [hmw] at hmy
              have HMy2 := Lib.hid hmy
              have HM3 : Hid (M = (if most < K then (552, none) else (250, some A.data.toList))) := by
                show M = (if most < K then (552, none) else (250, some A.data.toList))
                have h9 := HM2.out
                rw [hem, hmw, if_neg (by decide)] at h9
                exact h9
              clear hae hmy hmw hem HMy
              go_wp2_with fail
              refine HMy2.out.mono ?_
              rintro e w5 ⟨rfl, rfl⟩
              by_cases hK : most < K
              ·
                have hm3 := HM3.out
                rw [if_pos hK] at hm3
                have HP := Lib.hid (show M = (552, none) from hm3)
                have q1 : decide ((most : Int) < (K : Int)) = true := decide_eq_true (by omega)
                have q2 : decide (most < K) = true := decide_eq_true hK
                have HR := Lib.hid (fun w => rrep552 w)
                clear hm3
                go_wp2_with fail
                refine (HR.out _).mono ?_
                rintro e w9 ⟨rfl, hb9⟩
                have hbl := hbw.out.trans (hb9.mono hbw.out.size)
                go_wp2
                go_ret
                exact maiIs_same HX.out HP.out hbl
              ·
                have hm3 := HM3.out
                rw [if_neg hK] at hm3
                have HP := Lib.hid (show M = (250, some A.data.toList) from hm3)
                have q1 : decide ((most : Int) < (K : Int)) = false := decide_eq_false (by omega)
                have q2 : decide (most < K) = false := decide_eq_false hK
                have HR := Lib.hid (fun w => rrep250 w)
                clear hm3
                go_wp2_with fail
                refine (HR.out _).mono ?_
                rintro e w9 ⟨rfl, hb9⟩
                go_wp2
                go_ret
                rw [HP.out]
                have hy := (HRx.out.set4 true).set5 A
                have f := ((Fr.of_below (X := Bk rb) hbw.out).setCell (b := rb) (o := 4) (by rfl) (.bool true)).setCell (b := rb) (o := 5) (by rfl) (.string A)
                refine ⟨rfl, f.then hb9, ?_⟩
                show RawR w9 rb most fb kv true true (bt A.data.toList) tv tk lg B wt ov
                rw [bt_back]
                exact hy.later hb9
end
end Go.Proofs.YtjoipgekmnnlpaaGreatDoor
