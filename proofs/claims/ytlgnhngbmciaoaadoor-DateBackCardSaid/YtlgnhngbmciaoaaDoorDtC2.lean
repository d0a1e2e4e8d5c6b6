/- Walks: dates: Read. -/
import Derived.Test.YtlgnhngbmciaoaaDoorDtC1
import Derived.Test.YtlgnhngbmciaoaaDoorDt1
import Derived.Test.YtlgnhngbmciaoaaDoorDt9
import Derived.Deep.RegionHeld3
import Derived.Deep.DrawnRows
import Derived.Deep.DeepCutAuto
import Derived.Deep.CutBlock
import Derived.Deep.QuietTactic
import Derived.BigQuiet
namespace Go.Proofs.YtlgnhngbmciaoaaDoor
open Go.RowKit Pk Dt

def ReadIs (o : Option (Int × Int)) (w : World) (e : Ending) (w' : World) : Prop :=
  (match o with
    | none => e = .returned (.tuple #[.agg #[.int .i64 0, .int .i64 0], .bool false])
    | some p => e = .returned (.tuple #[.agg #[.int .i64 p.1, .int .i64 p.2], .bool true])) ∧ Below w.heap.size w w'
def read5M (N : List ByteArray) : Option (Int × Int) := match datL N with
  | [a, b, c, d, e] => read5 a b c d e
  | _ => none
theorem frozenD {w : World} {b j : Nat} {cs : Array Value} {t : TypeId} (h : w.heap[b]? = some (Obj.cells cs t (0, 0))) : w.frozen? ⟨b, j, none⟩ = false := by simp [World.frozen?, h]
theorem drewN_below (w : World) (n : Nat) : Below w.heap.size w (w.drewN n) := ⟨rfl, rfl, rfl, Nat.le_refl _, fun _ _ => rfl⟩
theorem read5M_no {N : List ByteArray} (h : N.length ≠ 5) : read5M N = none := by
  unfold read5M datL
  match N, h with
  | [], _ => rfl
  | [a], _ => rfl
  | [a, b], _ => rfl
  | [a, b, c], _ => rfl
  | [a, b, c, d], _ => rfl
  | [a, b, c, d, e], h => exact absurd rfl h
  | a :: b :: c :: d :: e :: f :: r, _ => rfl
/-- without a weekday -/
theorem no_day (L : List ByteArray) : ∃ (M : List ByteArray) (bb : Bool), noDay (datL L) = datL M ∧ ((bb = false ∧ M = L ∧ (∀ x r, L = x :: r → wdays.contains x.data.toList = false)) ∨ (bb = true ∧ ∃ x, L = x :: M ∧ wdays.contains x.data.toList = true)) := by
  cases L with
  | nil => exact ⟨[], false, rfl, .inl ⟨rfl, rfl, fun x r h => by cases h⟩⟩
  | cons x r =>
    cases h : wdays.contains x.data.toList with
    | true => exact ⟨r, true, by show (if _ then _ else _) = _; rw [if_pos h]; rfl, .inr ⟨rfl, x, rfl, h⟩⟩
    | false => exact ⟨x :: r, false, by show (if _ then _ else _) = _; rw [if_neg (by rw [h]; decide)]; rfl, .inl ⟨rfl, rfl, fun y q e => by injection e with e1 e2; rw [← e1]; exact h⟩⟩
set_option maxHeartbeats 4000000 in
set_option maxRecDepth 100000 in
theorem read_any (s : ByteArray) (w : World) (h : Rd7 w) (hs : s.size ≤ 1000000) : Calls Tryd.prog 9 #[.string s] w (ReadIs (readL s.data.toList) w) := by
  have hPl := fun w => plain_any s w (by omega)
  have hPs := plD_length s.data.toList 0
  rw [dataL] at hPs
  obtain ⟨P, hP, hPl1, hPs1⟩ := arr_ex1 (plD 0 s.data.toList)
  have hPz : P.size ≤ 1000000 := by omega
  rw [← hP] at hPl
  have hFl := fun w => flds_call P w (by omega) _ rfl
  have hLz := flds_size blkR P
  have hf : fieldsD s.data.toList = datL (Lib.goFieldsP blkR P) := by unfold fieldsD; rw [← hP]; rfl
  generalize Lib.goFieldsP blkR P = L at *
  obtain ⟨M, bb, hM, hbb⟩ := no_day L
  have hR : readL s.data.toList = read5M (fixL M) := by unfold readL; rw [hf, readF_fix L M hM]; rfl
  rw [hR]
  have hMz : ∀ x ∈ fixL M, x.size ≤ 1000000 := fun x hx => by
    have hm : ∀ y ∈ M, y.size ≤ 1000000 := fun y hy => by
      rcases hbb with ⟨-, e, -⟩ | ⟨-, z, e, -⟩
      · have := hLz y (by rw [← e]; exact hy); omega
      · have := hLz y (by rw [e]; exact List.mem_cons_of_mem _ hy); omega
    unfold fixL at hx
    split at hx
    · rcases List.mem_append.1 hx with h1 | h1
      · exact hm x h1
      · rw [List.mem_singleton] at h1
        rw [h1]; decide
    · exact hm x hx
  obtain ⟨n, hn⟩ : ∃ n, n = L.length := ⟨_, rfl⟩
  rw [← hn] at hFl
  have hk0 : (w.alloc (.cells #[.int .i64 0, .int .i64 0] 23)).heap[w.heap.size]? = some (.cells #[.int .i64 0, .int .i64 0] 23 (0, 0)) := heap_alloc_new w _
  have hb0 : Below w.heap.size w (w.alloc (.cells #[.int .i64 0, .int .i64 0] 23)) := (Below.refl _ _).alloc (Nat.le_refl _) _
  have hr0 := h.late hb0
  have tb := Below.refl (w.alloc (.cells #[.int .i64 0, .int .i64 0] 23)).heap.size (w.alloc (.cells #[.int .i64 0, .int .i64 0] 23))
  have HPl := Lib.hid hPl
  have HFl := Lib.hid hFl
  have HMz := Lib.hid hMz
  have Hbb := Lib.hid hbb
  have HR := Lib.hid hr0
  have HB0 := Lib.hid hb0
  have HK0 := Lib.hid hk0
  have HN := Lib.hid hn
  clear hn
  clear hPl hPs hP hPl1 hPs1 hFl hLz hf hM hR hMz hbb hr0 hb0 hk0 h
  go_enter Tryd.func9, Tryd.ntmps9
  go_wp2_with (first
    | (go_at_call 20; (with_reducible refine (HPl.out _).mono ?_); rintro e w1 ⟨rfl, hb1⟩; have tb := tb.trans (hb1.mono tb.size))
    | (go_at_call 19; (with_reducible refine (HFl.out _).mono ?_); rintro e w2 ⟨A, rfl, hrow, hb2⟩; have tb := tb.trans (hb2.mono tb.size)))
  generalize hw0 : w.alloc (.cells #[.int .i64 0, .int .i64 0] 23) = w0 at *
  have hrd := HR.out.late tb
  clear hb1 hb2
  go_upto_region 2 with fail
  go_cut [31] (fun bv wx => bv = .bool bb ∧ Below w2.heap.size w2 wx)
  case first =>
    rcases Hbb.out with ⟨e1, e2, e3⟩ | ⟨e1, x, e2, e3⟩
    · have E1 := Lib.hid e1
      cases hL : L with
      | nil =>
        have z1 : decide (0 < n) = false := decide_eq_false (by have := HN.out; rw [hL] at this; simp at this; omega)
        clear hrow hrd e1 e2 e3 hL
        go_quiet (fail)
        go_wp2_with fail
        go_meet
        exact ⟨by rw [E1.out], drewN_below w2 _⟩
      | cons x r =>
        have hc := e3 x r hL
        have hC := fun W hW => has_wd x W hW
        rw [hc] at hC
        have HC := Lib.hid hC
        have c0 : w2.cell? ⟨A, 0, none⟩ = some (.string x) := by
          have := hrow 0 (by rw [hL]; simp)
          simp only [hL] at this
          exact this
        have z1 : decide (0 < n) = true := decide_eq_true (by have := HN.out; rw [hL] at this; simp at this; omega)
        have z2 : 0 < n := of_decide_eq_true z1
        clear hrow e1 e2 e3 hL hc hC
        go_region_held3 (fun W => W.cell? ⟨A, 0, none⟩ = some (.string x)) (first | assumption | fail) (first | (go_at_call 22; (with_reducible refine (HC.out _ (by first | exact hrd | exact hrd.late (Below.refl _ _).drew)).mono ?_); rintro e w3 ⟨rfl, rfl⟩) | fail)
        go_wp2_with fail
        go_meet
        exact ⟨by rw [E1.out], by first | exact (Below.refl _ _).drew | exact Below.refl _ _⟩
    · have E1 := Lib.hid e1
      have hC := fun W hW => has_wd x W hW
      rw [e3] at hC
      have HC := Lib.hid hC
      have c0 : w2.cell? ⟨A, 0, none⟩ = some (.string x) := by
        have := hrow 0 (by rw [e2]; simp)
        simp only [e2] at this
        exact this
      have z1 : decide (0 < n) = true := decide_eq_true (by have := HN.out; rw [e2] at this; simp at this; omega)
      have z2 : 0 < n := of_decide_eq_true z1
      clear hrow e1 e2 e3 hC
      go_region_held3 (fun W => W.cell? ⟨A, 0, none⟩ = some (.string x)) (first | assumption | fail) (first | (go_at_call 22; (with_reducible refine (HC.out _ (by first | exact hrd | exact hrd.late (Below.refl _ _).drew)).mono ?_); rintro e w3 ⟨rfl, rfl⟩) | fail)
      go_wp2_with fail
      go_meet
      exact ⟨by rw [E1.out], by first | exact (Below.refl _ _).drew | exact Below.refl _ _⟩
  case rest =>
    obtain ⟨rfl, hcb⟩ := hcut
    have tb := tb.trans (hcb.mono tb.size)
    have hrd := hrd.late hcb
    have hrow := hrow.later hcb
    clear hcb
    generalize wc = w3 at *
    go_upto_if 31 with fail
    go_cut [4] (fun lv wx => wx = w3 ∧ ∃ o : Nat, lv = .slice (some ⟨A, o, none⟩) M.length M.length ∧ Row5 w3 A o M)
    case first =>
      rcases Hbb.out with ⟨e1, e2, e3⟩ | ⟨e1, x, e2, e3⟩
      · have E1 := Lib.hid e1
        have hl : M.length = n := by rw [e2]; exact HN.out.symm
        have hrow2 : Row5 w3 A 0 M := by rw [e2]; exact hrow
        clear e1 e2 e3 hrow
        rw [E1.out]
        go_wp2
        go_meet
        exact ⟨rfl, 0, by rw [hl], hrow2⟩
      · have E1 := Lib.hid e1
        have hl : n = M.length + 1 := by have := HN.out; rw [e2] at this; simpa using this
        have hrow2 : Row5 w3 A (0 + 1) M := by rw [e2] at hrow; exact hrow.tail
        rw [E1.out]
        clear e1 e2 e3 hrow
        have z2 : 1 ≤ n := by omega
        have HL := Lib.hid hl
        by_cases h1 : n = 1
        · subst h1
          have hm0 : M = [] := List.eq_nil_of_length_eq_zero (by omega)
          clear hl hrow2
          go_wp2
          go_meet
          exact ⟨rfl, _, by rw [hm0]; rfl, fun j hj => by rw [hm0] at hj; cases hj⟩
        · have h2 : 2 ≤ n := by omega
          clear hl h1
          go_wp2
          go_meet
          exact ⟨rfl, 1, by rw [show n - 1 = M.length by have := HL.out; omega], hrow2⟩
    case rest =>
      obtain ⟨rfl, o, rfl, hrow⟩ := hcut
      clear Hbb HN
      go_upto_if 36 with fail
      go_cut [4] (fun lv wx => ∃ g o c, lv = .slice (some ⟨g, o, none⟩) (fixL M).length c ∧ (fixL M).length ≤ c ∧ Row5 wx g o (fixL M) ∧ Below wc.heap.size wc wx)
      case first =>
        by_cases h4 : M.length = 4
        · have hfix : fixL M = M ++ [⟨#[122]⟩] := by unfold fixL; rw [if_pos h4]
          have q1 : ((M.length : Int) == 4) = true := beq_iff_eq.2 (by omega)
          have HF := Lib.hid hfix
          have hm4 : M.length ≤ 1000000 := by omega
          have tb2 := Below.refl wc.heap.size wc
          clear hfix h4
          go_wp2_with (at_builtin; refine append_full _ rfl (.tmp 37) (.tmp 38) sslD rfl A o M.length M rfl rfl (hrow.later ((Below.refl _ _).alloc (Nat.le_refl _) _)) _ ⟨#[122]⟩ rfl (by simp) hm4 ?_; intro g' cap w4 hcl hg0 hg1 hcp hgr; have tb2 := (tb2.alloc tb2.size _).grown hgr (by simp) (fun k hk => by cases hk))
          go_meet
          refine ⟨g', 0, cap, ?_, ?_, ?_, tb2⟩
          · rw [HF.out, List.length_append]; rfl
          · rw [HF.out, List.length_append]; exact hcp
          · rw [HF.out]; exact fun j hj => by rw [Nat.zero_add]; exact hcl j hj
        · have hfix : fixL M = M := by unfold fixL; rw [if_neg h4]
          have q1 : ((M.length : Int) == 4) = false := beq_eq_false_iff_ne.2 (by omega)
          have HF := Lib.hid hfix
          clear hfix h4
          go_wp2
          go_meet
          refine ⟨A, o, M.length, ?_, ?_, ?_, Below.refl _ _⟩
          · rw [HF.out]
          · rw [HF.out]; exact Nat.le_refl _
          · rw [HF.out]; exact hrow
      case rest =>
        obtain ⟨g, o2, c, rfl, hcN, hrow, hcb⟩ := hcut
        have tb := tb.trans (hcb.mono tb.size)
        have hrd := hrd.late hcb
        clear hcb
        generalize fixL M = N at *
        have hlt0 : w.heap.size < w0.heap.size := by rw [← hw0]; simp
        have hkr := (tb.block w.heap.size hlt0).trans HK0.out
        have k0 : wc.cell? ⟨w.heap.size, 0, none⟩ = some (.int .i64 0) := (Lib.cell_of_heap hkr 0).trans rfl
        have k1 : wc.cell? ⟨w.heap.size, 1, none⟩ = some (.int .i64 0) := (Lib.cell_of_heap hkr 1).trans rfl
        have f0 : wc.frozen? ⟨w.heap.size, 0, none⟩ = false := frozenD hkr
        have f1 : wc.frozen? ⟨w.heap.size, 1, none⟩ = false := frozenD hkr
        have tw := HB0.out.trans (tb.mono HB0.out.size)
        clear hkr
        by_cases h5 : N.length = 5
        · obtain ⟨a, b, c5, d, e, rfl⟩ : ∃ a b c d e, N = [a, b, c, d, e] := by
            match N, h5 with
            | [a, b, c, d, e], _ => exact ⟨a, b, c, d, e, rfl⟩
          have hq : read5M [a, b, c5, d, e] = read5 a.data.toList b.data.toList c5.data.toList d.data.toList e.data.toList := rfl
          have za : c5.size ≤ 1000000 := HMz.out c5 (by simp)
          have zd : d.size ≤ 1000000 := HMz.out d (by simp)
          have ze : e.size ≤ 1000000 := HMz.out e (by simp)
          have c0 : wc.cell? ⟨g, o2, none⟩ = some (.string a) := hrow 0 (by simp)
          have c1 : wc.cell? ⟨g, o2 + 1, none⟩ = some (.string b) := hrow 1 (by simp)
          have c2 : wc.cell? ⟨g, o2 + 2, none⟩ = some (.string c5) := hrow 2 (by simp)
          have c3 : wc.cell? ⟨g, o2 + 3, none⟩ = some (.string d) := hrow 3 (by simp)
          have c4 : wc.cell? ⟨g, o2 + 4, none⟩ = some (.string e) := hrow 4 (by simp)
          have hA := fun w => digits12 a w
          have hI := fun w hw => ix_mo b w hw
          have hY := fun w => year_any c5 w
          have hC := fun w m hm => clock_any d w m hm (by omega)
          have hZ := fun w => zone_any e w (by omega)
          obtain ⟨a1, a2⟩ := nbd_le (digL_nbd 1 2 a.data.toList) (by omega)
          obtain ⟨y1, y2⟩ := year_bd c5.data.toList
          obtain ⟨t1, t2⟩ := clock_bd d.data.toList
          obtain ⟨z1, z2⟩ := zone_bd e.data.toList
          have m1 := monL_le b.data.toList
          obtain ⟨n1, n2⟩ := day_bd a.data.toList b.data.toList c5.data.toList d.data.toList e.data.toList
          unfold read5 at hq
          unfold dayN at hq n1 n2
          generalize digL 1 2 a.data.toList = pa at *
          generalize yearL c5.data.toList = py at *
          generalize clockL d.data.toList = pc at *
          generalize zoneL e.data.toList = pz at *
          generalize monL b.data.toList = mo at *
          obtain ⟨dn, one⟩ := pa
          obtain ⟨yy, two⟩ := py
          obtain ⟨cc, three⟩ := pc
          obtain ⟨zz, four⟩ := pz
          unfold PairD at *
          simp only at *
          generalize wc = w5 at *
          obtain ⟨n0, hn0⟩ : ∃ n0, n0 = (if one = true ∧ two = true ∧ three = true ∧ four = true ∧ 0 < mo ∧ 0 < yy then daysL yy mo dn else 0) := ⟨_, rfl⟩
          rw [← hn0] at hq n1 n2
          have hD := fun w => days_any yy mo dn w
          have hV := fun w => civil_any n0 w
          have hRt := fun w => right_any (n0 * 86400 + cc - 60 * zz) zz w
          generalize rightL (n0 * 86400 + cc - 60 * zz) zz = rt at *
          generalize civL n0 = cv at *
          obtain ⟨ca, cb, ce⟩ := cv
          simp only at hV
          have HD := Lib.hid hD
          have HV := Lib.hid hV
          have HRt := Lib.hid hRt
          have HQ := Lib.hid hq
          have HN0 := Lib.hid hn0
          have HA := Lib.hid hA
          have HI := Lib.hid hI
          have HY := Lib.hid hY
          have HC := Lib.hid hC
          have HZ := Lib.hid hZ
          have m2 : IntKind.i64.wrap ((mo : Int) - 1 + 1) = mo := w64 (by omega) (by omega) (by omega)
          have m3 : (mo : Int) - 1 + 1 = mo := by omega
          have m4 : IntKind.i64.wrap (mo : Int) = mo := w64 rfl (by omega) (by omega)
          clear hD hV hRt hq hn0 hA hI hY hC hZ h5 hrow k0 k1 f0 f1 tw
          go_wp2_with (first | (go_at_call 23; (with_reducible refine (HA.out _).mono ?_); rintro e w6 ⟨rfl, hb6⟩; have tb := tb.trans (hb6.mono tb.size); have hrd := hrd.late hb6; have c1 := laterC hb6 c1; have c2 := laterC hb6 c2; have c3 := laterC hb6 c3; have c4 := laterC hb6 c4))
          go_region_held3 (fun W => W.cell? ⟨g, o2 + 1, none⟩ = some (.string b)) (first | assumption | fail) (first | (go_at_call 24; (with_reducible refine (HI.out _ (by first | exact hrd | exact hrd.late (Below.refl _ _).drew)).mono ?_); rintro e w7 ⟨rfl, rfl⟩) | fail)
          have hd := (Below.refl w6.heap.size w6).drew
          have tb := tb.trans (hd.mono tb.size)
          have hrd := hrd.late hd
          have c2 := laterC hd c2
          have c3 := laterC hd c3
          have c4 := laterC hd c4
          obtain ⟨mx, hmx⟩ := hrd.max
          clear hd
          generalize w6.drew = w7 at *
          go_upto_region 14 with (first
            | (go_at_call 25; (with_reducible refine (HY.out _).mono ?_); rintro e w8 ⟨rfl, hb8⟩; have tb := tb.trans (hb8.mono tb.size); have c3 := laterC hb8 c3; have c4 := laterC hb8 c4; have hmx := laterC hb8 hmx)
            | (go_at_call 26; (with_reducible refine (HC.out _ _ hmx).mono ?_); rintro e w9 ⟨rfl, hb9⟩; have tb := tb.trans (hb9.mono tb.size); have c4 := laterC hb9 c4)
            | (go_at_call 27; (with_reducible refine (HZ.out _).mono ?_); rintro e w10 ⟨rfl, hb10⟩; have tb := tb.trans (hb10.mono tb.size)))
          obtain ⟨gb, hgb⟩ : ∃ gb : Bool, gb = decide (one = true ∧ two = true ∧ three = true ∧ four = true ∧ 0 < mo ∧ 0 < yy) := ⟨_, rfl⟩
          have HGB := Lib.hid hgb
          clear hgb c1 c2 c3 c4 hmx hb6 hb8 hb9 hb10
          go_cut [95] (fun v wx => v = .bool gb ∧ wx = w10)
          case first =>
            clear hrd tb HD HV HRt HQ HN0 HA HI HY HC HZ n1 n2
            cases one with
            | false =>
              go_wp2_with fail
              go_meet
              exact ⟨by rw [HGB.out]; simp [*], rfl⟩
            | true =>
              cases two with
              | false =>
                go_wp2_with fail
                go_meet
                exact ⟨by rw [HGB.out]; simp [*], rfl⟩
              | true =>
                cases three with
                | false =>
                  go_wp2_with fail
                  go_meet
                  exact ⟨by rw [HGB.out]; simp [*], rfl⟩
                | true =>
                  cases four with
                  | false =>
                    go_wp2_with fail
                    go_meet
                    exact ⟨by rw [HGB.out]; simp [*], rfl⟩
                  | true =>
                    by_cases g1 : 0 < mo
                    · have g2 : decide (0 < mo) = true := decide_eq_true g1
                      by_cases g3 : 0 < yy
                      · have g4 : decide (0 < yy) = true := decide_eq_true g3
                        go_wp2_with fail
                        go_meet
                        exact ⟨by rw [HGB.out]; simp [*], rfl⟩
                      · have g4 : decide (0 < yy) = false := decide_eq_false g3
                        go_wp2_with fail
                        go_meet
                        exact ⟨by rw [HGB.out]; simp [*], rfl⟩
                    · have g2 : decide (0 < mo) = false := decide_eq_false g1
                      go_wp2_with fail
                      go_meet
                      exact ⟨by rw [HGB.out]; simp [*], rfl⟩
          case rest =>
            obtain ⟨rfl, rfl⟩ := hcut
            go_upto_if 95 with fail
            go_cut [14] (fun v wx => v = .int .i64 n0 ∧ Below wc.heap.size wc wx)
            case first =>
              cases gb with
              | true =>
                have hcd : one = true ∧ two = true ∧ three = true ∧ four = true ∧ 0 < mo ∧ 0 < yy := of_decide_eq_true HGB.out.symm
                have E : Hid (n0 = daysL yy mo dn) := by have := HN0.out; rw [if_pos hcd] at this; exact this
                clear hcd HV HRt HQ HN0 HA HI HY HC HZ HGB hrd
                go_wp2_with (first | (go_at_call 13; (with_reducible refine (HD.out _).mono ?_); rintro e w11 ⟨rfl, hb11⟩))
                go_meet
                exact ⟨by rw [E.out], hb11⟩
              | false =>
                have hcd : ¬ (one = true ∧ two = true ∧ three = true ∧ four = true ∧ 0 < mo ∧ 0 < yy) := of_decide_eq_false HGB.out.symm
                have E : Hid (n0 = 0) := by have := HN0.out; rw [if_neg hcd] at this; exact this
                clear hcd HV HRt HQ HN0 HA HI HY HC HZ HGB hrd
                go_wp2_with fail
                go_meet
                exact ⟨by rw [E.out], Below.refl _ _⟩
            case rest =>
              obtain ⟨rfl, hcb⟩ := hcut
              have tb := tb.trans (hcb.mono tb.size)
              clear hcb hrd HD HN0 HA HI HY HC HZ HGB
              generalize wc = w11 at *
              have hkT : (w11.alloc (.cells #[.int .i64 (n0 * 86400 + cc - 60 * zz), .int .i64 zz] 23)).heap[w11.heap.size]? = some (.cells #[.int .i64 (n0 * 86400 + cc - 60 * zz), .int .i64 zz] 23 (0, 0)) := heap_alloc_new w11 _
              have HKT := Lib.hid hkT
              have tb := tb.alloc tb.size (.cells #[.int .i64 (n0 * 86400 + cc - 60 * zz), .int .i64 zz] 23)
              clear hkT
              go_upto_region 18 with (first | (go_at_call 12; (with_reducible refine (HV.out _).mono ?_); rintro e w12 ⟨rfl, hb12⟩; have tb := tb.trans (hb12.mono tb.size)))
              have hkT := (hb12.block w11.heap.size (by simp)).trans HKT.out
              have t0 : w12.cell? ⟨w11.heap.size, 0, none⟩ = some (.int .i64 (n0 * 86400 + cc - 60 * zz)) := (Lib.cell_of_heap hkT 0).trans rfl
              have t1 : w12.cell? ⟨w11.heap.size, 1, none⟩ = some (.int .i64 zz) := (Lib.cell_of_heap hkT 1).trans rfl
              obtain ⟨ok, hok⟩ : ∃ ok : Bool, ok = decide ((⟨ca, cb, ce⟩ : D) = ⟨yy, mo, dn⟩ ∧ (one = true ∧ two = true ∧ three = true ∧ four = true) ∧ rt = true) := ⟨_, rfl⟩
              have HOK := Lib.hid hok
              clear hok hkT HV hb12
              go_cut [145] (fun v wx => v = .bool (!ok) ∧ Below w12.heap.size w12 wx)
              case first =>
                clear HQ tb
                by_cases g1 : ca = yy
                · have p1 : (ca != yy) = false := by rw [bne, beq_iff_eq.2 g1]; rfl
                  have G1 := Lib.hid g1
                  clear g1
                  by_cases g2 : cb = (mo : Int)
                  · have p2 : (cb != (mo : Int)) = false := by rw [bne, beq_iff_eq.2 g2]; rfl
                    have G2 := Lib.hid g2
                    clear g2
                    by_cases g3 : ce = dn
                    · have p3 : (ce != dn) = false := by rw [bne, beq_iff_eq.2 g3]; rfl
                      have G3 := Lib.hid g3
                      clear g3
                      cases one with
                      | false =>
                        go_wp2_with (first | (go_at_call 10; (with_reducible refine (HRt.out _).mono ?_); rintro e w13 ⟨rfl, hb13⟩))
                        go_meet
                        exact ⟨by rw [HOK.out]; simp [*], by first | exact hb13 | exact Below.refl _ _⟩
                      | true =>
                        cases two with
                        | false =>
                          go_wp2_with (first | (go_at_call 10; (with_reducible refine (HRt.out _).mono ?_); rintro e w13 ⟨rfl, hb13⟩))
                          go_meet
                          exact ⟨by rw [HOK.out]; simp [*], by first | exact hb13 | exact Below.refl _ _⟩
                        | true =>
                          cases three with
                          | false =>
                            go_wp2_with (first | (go_at_call 10; (with_reducible refine (HRt.out _).mono ?_); rintro e w13 ⟨rfl, hb13⟩))
                            go_meet
                            exact ⟨by rw [HOK.out]; simp [*], by first | exact hb13 | exact Below.refl _ _⟩
                          | true =>
                            cases four with
                            | false =>
                              go_wp2_with (first | (go_at_call 10; (with_reducible refine (HRt.out _).mono ?_); rintro e w13 ⟨rfl, hb13⟩))
                              go_meet
                              exact ⟨by rw [HOK.out]; simp [*], by first | exact hb13 | exact Below.refl _ _⟩
                            | true =>
                              cases rt with
                              | false =>
                                go_wp2_with (first | (go_at_call 10; (with_reducible refine (HRt.out _).mono ?_); rintro e w13 ⟨rfl, hb13⟩))
                                go_meet
                                exact ⟨by rw [HOK.out]; simp [*], by first | exact hb13 | exact Below.refl _ _⟩
                              | true =>
                                go_wp2_with (first | (go_at_call 10; (with_reducible refine (HRt.out _).mono ?_); rintro e w13 ⟨rfl, hb13⟩))
                                go_meet
                                exact ⟨by rw [HOK.out]; rw [G1.out, G2.out, G3.out]; simp, by first | exact hb13 | exact Below.refl _ _⟩
                    · have p3 : (ce != dn) = true := by rw [bne, beq_eq_false_iff_ne.2 g3]; rfl
                      have g3' : (ce == dn) = false := beq_eq_false_iff_ne.2 g3
                      go_wp2_with (first | (go_at_call 10; (with_reducible refine (HRt.out _).mono ?_); rintro e w13 ⟨rfl, hb13⟩))
                      go_meet
                      exact ⟨by rw [HOK.out]; simp [*], by first | exact hb13 | exact Below.refl _ _⟩
                  · have p2 : (cb != (mo : Int)) = true := by rw [bne, beq_eq_false_iff_ne.2 g2]; rfl
                    go_wp2_with (first | (go_at_call 10; (with_reducible refine (HRt.out _).mono ?_); rintro e w13 ⟨rfl, hb13⟩))
                    go_meet
                    exact ⟨by rw [HOK.out]; simp [*], by first | exact hb13 | exact Below.refl _ _⟩
                · have p1 : (ca != yy) = true := by rw [bne, beq_eq_false_iff_ne.2 g1]; rfl
                  go_wp2_with (first | (go_at_call 10; (with_reducible refine (HRt.out _).mono ?_); rintro e w13 ⟨rfl, hb13⟩))
                  go_meet
                  exact ⟨by rw [HOK.out]; simp [*], by first | exact hb13 | exact Below.refl _ _⟩
              case rest =>
                obtain ⟨rfl, hcb⟩ := hcut
                have tb := tb.trans (hcb.mono tb.size)
                have t0 := laterC hcb t0
                have t1 := laterC hcb t1
                clear hcb HRt
                have hkr := (tb.block w.heap.size hlt0).trans HK0.out
                have k0 : wc.cell? ⟨w.heap.size, 0, none⟩ = some (.int .i64 0) := (Lib.cell_of_heap hkr 0).trans rfl
                have k1 : wc.cell? ⟨w.heap.size, 1, none⟩ = some (.int .i64 0) := (Lib.cell_of_heap hkr 1).trans rfl
                have f0 : wc.frozen? ⟨w.heap.size, 0, none⟩ = false := frozenD hkr
                have f1 : wc.frozen? ⟨w.heap.size, 1, none⟩ = false := frozenD hkr
                have tw := HB0.out.trans (tb.mono HB0.out.size)
                clear hkr
                cases ok with
                | true =>
                  have hcd := of_decide_eq_true HOK.out.symm
                  have E : Hid (read5M [a, b, c5, d, e] = some (n0 * 86400 + cc - 60 * zz, zz)) := by have := HQ.out; rw [if_pos hcd] at this; exact this
                  clear hcd HOK HQ
                  go_wp2
                  refine bodyPost_ret (v := .tuple #[.agg #[.int .i64 (n0 * 86400 + cc - 60 * zz), .int .i64 zz], .bool true]) (by simp [results, Tryd.results9, go_sem, *]) rfl ?_
                  rw [E.out]
                  exact ⟨rfl, (tw.setCell (Nat.le_refl _) _).setCell (Nat.le_refl _) _⟩
                | false =>
                  have hcd := of_decide_eq_false HOK.out.symm
                  have E : Hid (read5M [a, b, c5, d, e] = none) := by have := HQ.out; rw [if_neg hcd] at this; exact this
                  clear hcd HOK HQ
                  go_wp2
                  refine bodyPost_ret (v := .tuple #[.agg #[.int .i64 0, .int .i64 0], .bool false]) (by simp [results, Tryd.results9, go_sem, *]) rfl ?_
                  rw [E.out]
                  exact ⟨rfl, (tw.setCell (Nat.le_refl _) _).setCell (Nat.le_refl _) _⟩
        · have q1 : ((N.length : Int) == 5) = false := beq_eq_false_iff_ne.2 (by omega)
          have q2 : ((N.length : Int) != 5) = true := by rw [bne, q1]; rfl
          have hno := Lib.hid (read5M_no h5)
          clear h5 hrow
          go_wp2
          refine bodyPost_ret (v := .tuple #[.agg #[.int .i64 0, .int .i64 0], .bool false]) (by simp [results, Tryd.results9, go_sem, *]) rfl ?_
          rw [hno.out]
          exact ⟨rfl, (tw.setCell (Nat.le_refl _) _).setCell (Nat.le_refl _) _⟩
end Go.Proofs.YtlgnhngbmciaoaaDoor
