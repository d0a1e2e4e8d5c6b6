/- Walks: chapter 09's laws: HeaderApart. -/
import Derived.Test.YthchklbnkojkgaaGreatDoorSame9
import Derived.Test.YthchklbnkojkgaaGreatDoorHdA
import Derived.Test.YthchklbnkojkgaaGreatDoorR09f
import Derived.SliceStrings
import Derived.OpenShut
import Derived.WideShapes
namespace Go.Proofs.YthchklbnkojkgaaGreatDoor
open Go.RowKit Pk Hd

/-- a slice of strings reads as these -/
def StrsAt (w : World) (v : Value) (l : List ByteArray) : Prop := ∃ p c, v = .slice p l.length c ∧ l.length ≤ c ∧ (l = [] ∨ ∃ g o, p = some ⟨g, o, none⟩ ∧ ∀ j (hj : j < l.length), w.cell? ⟨g, o + j, none⟩ = some (.string l[j]))
theorem cat3 (S b : ByteArray) : (S ++ ⟨#[13, 10]⟩ ++ b : ByteArray).data.toList = S.data.toList ++ ([13, 10] ++ b.data.toList) ∧ (S ++ ⟨#[13, 10]⟩ ++ b : ByteArray).extract (S.size + 2) (S ++ ⟨#[13, 10]⟩ ++ b : ByteArray).size = b := by
  have e : (S ++ ⟨#[13, 10]⟩ ++ b : ByteArray).data.toList = S.data.toList ++ ([13, 10] ++ b.data.toList) := by
    simp only [ByteArray.data_append, Array.toList_append]
    simp
  refine ⟨e, ?_⟩
  rw [← toB_back (ByteArray.extract _ _ _), ext_from, e, ← List.append_assoc, List.drop_left' (by simp), toB_back]
theorem all_rt (v : Value) (m : List Fld) (s : ByteArray) (w : World) (h : Rt w) (hs : s.size ≤ 10000000) (hm : m.length ≤ 1000000) (hz : ∀ x ∈ m, x.name.size ≤ 1000000 ∧ x.value.size ≤ 1000000) (hM : seesG fldLay w w.heap.size 29 v m) :
    Calls Tryz.prog 22 #[v, .string s] w (TextsIs (allV m s.data.toList) w) := by
  obtain ⟨q, hq⟩ := h.ml
  exact all_any v m s w hs hm hz q hq hM
theorem strs_sliceA {w : World} {B : Nat} {e : TypeId} {v : Value} {l : List ByteArray} (h : ownsS w B e v l) (hl : 0 < l.length) : ∃ g c, v = .slice (some ⟨g, 0, none⟩) l.length c ∧ l.length ≤ c ∧ ∀ j (hj : j < l.length), w.cell? ⟨g, j, none⟩ = some (.string l[j]) := by
  rcases h.form with ⟨-, e0⟩ | ⟨g, c, hv, hg, hc, hcc, hcell⟩
  · rw [e0] at hl; simp at hl
  · exact ⟨g, c, hv, hc, hcell⟩
/-- what the first loop knows -/
def PutsAt (ns vs : List ByteArray) (i : Nat) (S : ByteArray) : Prop := S.data.toList = putsL ((ns.zip vs).take i) ∧ ∀ p ∈ (ns.zip vs).take i, PairOk p
theorem puts_zero (ns vs : List ByteArray) : PutsAt ns vs 0 ⟨#[]⟩ := ⟨rfl, fun p hp => by cases hp⟩
theorem puts_step {ns vs : List ByteArray} {i : Nat} {S P : ByteArray} (h : Hid (PutsAt ns vs i S)) (h1 : i < ns.length) (h2 : i < vs.length) (hn : Named ns[i].data.toList) (z1 : ns[i].size ≤ 100) (z2 : vs[i].size ≤ 300) (hP : P.data.toList = putL ns[i].data.toList vs[i].data.toList) : Hid (PutsAt ns vs (i + 1) (S ++ P)) := by
  obtain ⟨e1, e2⟩ := h.out
  refine ⟨?_, fun p hp => ?_⟩
  · rw [ByteArray.data_append, Array.toList_append, e1, hP, zip_take i h1 h2]
    unfold putsL
    rw [List.flatMap_append, List.flatMap_cons, List.flatMap_nil, List.append_nil]
    rfl
  · rw [zip_take i h1 h2] at hp
    rcases List.mem_append.1 hp with h | h
    · exact e2 p h
    · rw [List.mem_singleton] at h
      subst h
      exact ⟨hn, z1, z2⟩
/-- what the second loop needs of one field -/
structure OneOk (ns vs : List ByteArray) (i : Nat) (h1 : i < ns.length) (h2 : i < vs.length) (x : Fld) : Prop where
  is : ∃ x1 P : ByteArray, x = ⟨ns[i], x1, P, false⟩ ∧ P.data.toList = putL ns[i].data.toList vs[i].data.toList ∧ parS P.data.toList = [x] ∧ endS P.data.toList = P.size ∧ P.size ≤ 10000 ∧ x1.size ≤ 10000
  n1 : ns[i].size ≤ 100
  n2 : vs[i].size ≤ 300
theorem puts_done {ns vs : List ByteArray} {S : ByteArray} (body : List UInt8) (hl : ns.length ≤ vs.length) (h : PutsAt ns vs ns.length S) : ∃ m : List Fld, m.length = ns.length ∧ parS (S.data.toList ++ ([13, 10] ++ body)) = m ∧ endS (S.data.toList ++ ([13, 10] ++ body)) = S.size + 2 ∧ (∀ x ∈ m, x.name.size ≤ 1000000 ∧ x.value.size ≤ 1000000) ∧
    (∀ i (h1 : i < ns.length) (h2 : i < vs.length) (h3 : i < m.length), OneOk ns vs i h1 h2 m[i]) ∧ ∀ i (h1 : i < ns.length), ∃ V0 t, allV m ns[i].data.toList = V0 :: t ∧ (V0 :: t).length = manyN ns[i].data.toList ns ns.length := by
  obtain ⟨e1, e2⟩ := h
  have hz := zip_len hl
  rw [← hz, List.take_length] at e1 e2
  obtain ⟨p1, p2⟩ := apart_par body (ns.zip vs) (fun p hp => (e2 p hp).named)
  have key : ∀ p ∈ ns.zip vs, ∃ x1 P : ByteArray, fldP p = ⟨p.1, x1, P, false⟩ ∧ P.data.toList = putL p.1.data.toList p.2.data.toList ∧ parS P.data.toList = [fldP p] ∧ endS P.data.toList = P.size ∧ P.size ≤ 10000 ∧ x1.size ≤ 10000 := fun p hp => by
    obtain ⟨hn, z1, z2⟩ := e2 p hp
    obtain ⟨x1, f1, f2, f3, f4, f5⟩ := fldP_is hn
    have hle := put_le p.1.data.toList p.2.data.toList
    rw [dataL, dataL] at hle
    have hle : (putB p).length ≤ p.1.size + 4 + 3 * p.2.size := hle
    have hPz : (toB (putB p)).size = (putB p).length := by rw [← dataL, toB_data]
    refine ⟨x1, toB (putB p), f1, by rw [toB_data]; rfl, by rw [toB_data]; exact f4, by rw [toB_data, f5, hPz], by omega, by omega⟩
  refine ⟨(ns.zip vs).map fldP, by rw [List.length_map, hz], by rw [e1]; exact p1, by rw [e1, p2, ← e1]; rfl, fun x hx => ?_, fun i h1 h2 h3 => ?_, fun i h1 => ?_⟩
  · obtain ⟨p, hp, rfl⟩ := List.mem_map.1 hx
    obtain ⟨x1, P, f1, -, -, -, -, f2⟩ := key p hp
    have := (e2 p hp).n1
    rw [f1]
    exact ⟨by show p.1.size ≤ _; omega, by show x1.size ≤ _; omega⟩
  · have hm : (ns[i], vs[i]) ∈ ns.zip vs := by
      have : (ns.zip vs)[i]'(by omega) = (ns[i], vs[i]) := List.getElem_zip ..
      rw [← this]; exact List.getElem_mem _
    have e : ((ns.zip vs).map fldP)[i] = fldP (ns[i], vs[i]) := by rw [List.getElem_map, List.getElem_zip]
    rw [e]
    obtain ⟨x1, P, f⟩ := key _ hm
    exact ⟨⟨x1, P, f⟩, (e2 _ hm).n1, (e2 _ hm).n2⟩
  · have hi : i < vs.length := by omega
    have hm : (ns[i], vs[i]) ∈ ns.zip vs := by
      have : (ns.zip vs)[i]'(by omega) = (ns[i], vs[i]) := List.getElem_zip ..
      rw [← this]; exact List.getElem_mem _
    have ha : allV ((ns.zip vs).map fldP) ns[i].data.toList = ((ns.zip vs).filter (sameN ns[i].data.toList)).map fun p => toB (cleanL p.2.data.toList) := apart_all _ _ (fun p hp => (e2 p hp).named)
    have hpos := apart_one ns[i].data.toList (ns.zip vs) hm rfl
    have hlen : (allV ((ns.zip vs).map fldP) ns[i].data.toList).length = manyN ns[i].data.toList ns ns.length := by
      rw [ha, List.length_map, many_end _ _ _ hl]
    cases hc : allV ((ns.zip vs).map fldP) ns[i].data.toList with
    | nil => rw [ha] at hc; have := congrArg List.length hc; rw [List.length_map] at this; simp at this; simp at hpos; exact absurd hpos (by simpa using this)
    | cons V0 t => exact ⟨V0, t, rfl, by rw [← hc]; exact hlen⟩
set_option maxRecDepth 100000 in
theorem laidOut : laidOutB Tryz.prog = true := by kernel_rfl
set_option maxRecDepth 100000 in
theorem strs_of {H : Type} {enc : TypeId × Value → H} {W : World} {v : Value} {d : DataW H} {p : List MemPlace} {base : Nat} (hv : Value.okWide Tryz.prog W .any base 32 v) (h : DataW.Trod enc Tryz.prog W 0 (fun _ => true) true 32 v d p) : ∃ ns, StrsAt W v ns := by
  obtain ⟨fuel, hf⟩ := h
  obtain ⟨a0, len0, cap0, rfl⟩ := WideShapes.okWide_slice Tryz.underlying32 hv
  rcases ChangeShapes.open_strings Tryz.underlying32 Tryz.underlying9 (by kernel_rfl) hf with ⟨hc, -⟩ | ⟨a, len, cap, zs, hc, -, h1, h2, h3, -, h4, -⟩
  · have hc : Value.slice a0 len0 cap0 = .slice none 0 0 := List.head_eq_of_cons_eq hc
    exact ⟨[], none, 0, hc, Nat.le_refl _, .inl rfl⟩
  · have hc : Value.slice a0 len0 cap0 = .slice (some a) len cap := List.head_eq_of_cons_eq hc
    rw [if_pos rfl] at h3
    have hl : (zs.take len).length = len := by rw [List.length_take]; omega
    refine ⟨zs.take len, some a, cap, by rw [hl]; exact hc, by rw [hl]; exact h1, ?_⟩
    by_cases h0 : len = 0
    · left; rw [h0, List.take_zero]
    · right
      obtain ⟨b, off, spot⟩ := a
      have hspot : spot = none := by simpa [Addr.add] using World.cell?_spot (h4 0 (by omega))
      subst hspot
      refine ⟨b, off, rfl, fun j hj => ?_⟩
      rw [hl] at hj
      rw [← Go.WideShapes.add_plain, h4 j (by omega), List.getElem_take]
      congr 2
      rw [List.getD_eq_getElem?_getD, List.getElem?_eq_getElem (by omega)]; rfl
set_option maxHeartbeats 8000000 in
set_option maxRecDepth 100000 in
theorem apart_of (va vb : Value) (ns vs : List ByteArray) (b : ByteArray) (w : World) (h : Rt w) (ha : StrsAt w va ns) (hb : StrsAt w vb vs) : Calls Tryz.prog 6 #[va, vb, .string b] w (Truth w) := by
  have HS := Lib.hid (small9_any w h)
  have HR := Lib.hid h
  clear h
  obtain ⟨pa, ca, rfl, hca, hA⟩ := ha
  obtain ⟨pb, cb, rfl, hcb, hB⟩ := hb
  by_cases a1 : ns.length ≤ 20
  · have q1 : decide ((20 : Int) < (ns.length : Int)) = false := decide_eq_false (by omega)
    have p1 : decide (20 < ns.length) = false := decide_eq_false (by omega)
    by_cases a2 : ns.length ≤ vs.length
    · have q2 : decide ((vs.length : Int) < (ns.length : Int)) = false := decide_eq_false (by omega)
      have p2 : decide (vs.length < ns.length) = false := decide_eq_false (by omega)
      by_cases a3 : b.size ≤ 3000
      · have q3 : decide ((3000 : Int) < (b.size : Int)) = false := decide_eq_false (by omega)
        have p3 : decide (3000 < b.size) = false := decide_eq_false (by omega)
        have HA := Lib.hid hA
        have HB := Lib.hid hB
        have tb := Below.refl w.heap.size w
        have h0 := Lib.hid (puts_zero ns vs)
        clear hA hB
        go_enter Tryz.func6, Tryz.ntmps6
        go_wp2_with (go_at_call 8; (with_reducible refine HS.out.mono ?_); rintro e w1 ⟨rfl, hb1⟩; have tb := tb.trans hb1)
        go_loopw [8, 9] (fun sv iv wr => ∃ (i : Nat) (S : ByteArray), sv = .string S ∧ iv = .int .i64 i ∧ i ≤ ns.length ∧ Below w.heap.size w wr ∧ S.size ≤ i * 1100 ∧ Hid (PutsAt ns vs i S)) (fun _ iv _ => ns.length - (intOf iv).toNat)
        case atStart => exact ⟨0, ⟨#[]⟩, by first | rfl | trivial, by first | rfl | trivial, by omega, tb, by decide, h0⟩
        case round =>
          clear h0
          obtain ⟨i, S, rfl, rfl, hi, hbel, hSz, hrel⟩ := hrel
          have hz := hbel.size
          by_cases hlt : i < ns.length
          · rcases HA.out with rfl | ⟨ga, oa, rfl, hA⟩
            · simp at hlt
            · rcases HB.out with rfl | ⟨gb, ob, rfl, hB⟩
              · exact absurd (Nat.lt_of_lt_of_le hlt a2) (by simp)
              · have c1 := cell_later hbel (hA i hlt)
                have c2 := cell_later hbel (hB i (by omega))
                have z0 : (0 : Int) ≤ (i : Int) := by omega
                have z1 : (i : Int) < (ns.length : Int) := by omega
                have z2 : (i : Int) < (vs.length : Int) := by omega
                have hstep := fun P => puts_step (P := P) hrel hlt (by omega)
                generalize ns[i] = n at *
                generalize vs[i] = x at *
                by_cases b1 : n.size ≤ 100
                · have y1 : decide ((100 : Int) < (n.size : Int)) = false := decide_eq_false (by omega)
                  have r1 : decide (100 < n.size) = false := decide_eq_false (by omega)
                  by_cases b2 : x.size ≤ 300
                  · have y2 : decide ((300 : Int) < (x.size : Int)) = false := decide_eq_false (by omega)
                    have r2 : decide (300 < x.size) = false := decide_eq_false (by omega)
                    have hRt := fun w => right_any n w (by omega)
                    cases hr : rightB n.data.toList with
                    | false =>
                      rw [hr] at hRt
                      have HRt := Lib.hid hRt
                      clear hRt hr hstep hrel
                      go_wp2_with (go_at_call 10; (with_reducible refine (HRt.out _).mono ?_); rintro e w1 ⟨rfl, rfl⟩)
                      go_ret
                      exact ⟨rfl, hbel⟩
                    | true =>
                      rw [hr] at hRt
                      have HRt := Lib.hid hRt
                      have hpl := put_le n.data.toList x.data.toList
                      rw [dataL, dataL] at hpl
                      obtain ⟨P, hPe, hPd, hPs⟩ := arrE (putL n.data.toList x.data.toList)
                      have hP := fun w => put_any n x w (by omega) (by omega)
                      have hP2 : toB (putL n.data.toList x.data.toList) = P := hPe.symm
                      rw [hP2] at hP
                      have hd := hstep P (right_named.1 hr) b1 b2 hPd
                      have HP := Lib.hid hP
                      have hSP : S.size + P.size ≤ (i + 1) * 1100 := by omega
                      have hSP2 : S.size + P.size ≤ 22000 := by omega
                      clear hRt hr hstep hrel hP hP2 hPe hPd hPs hpl
                      go_wp2_with (go_at_call 10; (with_reducible refine (HRt.out _).mono ?_); rintro e w1 ⟨rfl, rfl⟩)
                      go_region_with (first
                        | (go_at_call 11; (with_reducible refine (HP.out _).mono ?_); rintro e w2 ⟨rfl, hb2⟩; have c1 := cell_later hb2 c1; have c2 := cell_later hb2 c2) | fail)
                      all_goals
                        go_wp2
                        go_roundw
                        case rel => exact ⟨i + 1, S ++ P, by first | rfl | trivial, by go_num, by omega, hbel.drew.trans (hb2.mono (show w.heap.size ≤ wr.drew.heap.size from hz)), by rw [ByteArray.size_append]; omega, hd⟩
                        case measure => simp [intOf]; omega
                  · have y2 : decide ((300 : Int) < (x.size : Int)) = true := decide_eq_true (by omega)
                    have r2 : decide (300 < x.size) = true := decide_eq_true (by omega)
                    clear hstep hrel
                    go_wp2
                    go_ret
                    exact ⟨rfl, hbel⟩
                · have y1 : decide ((100 : Int) < (n.size : Int)) = true := decide_eq_true (by omega)
                  have r1 : decide (100 < n.size) = true := decide_eq_true (by omega)
                  clear hstep hrel
                  go_wp2
                  go_ret
                  exact ⟨rfl, hbel⟩
          · obtain rfl : i = ns.length := by omega
            obtain ⟨m, m1, m2, m3, m4, m5, m6⟩ := puts_done b.data.toList a2 hrel.out
            obtain ⟨t1, t2⟩ := cat3 S b
            have g1 : (S ++ ⟨#[13, 10]⟩ : ByteArray).size = S.size + 2 := app_size _ _
            generalize hq1 : (S ++ ⟨#[13, 10]⟩ : ByteArray) = Q1 at *
            have g2 : (Q1 ++ b : ByteArray).size = Q1.size + b.size := app_size _ _
            generalize hq2 : (Q1 ++ b : ByteArray) = Q2 at *
            rw [g2, g1] at t2
            have hP := fun w' hr => parse_rt Q2 w' hr (by omega)
            unfold ParIs at hP
            rw [t1, m2, m3] at hP
            have y1 : ((m.length : Int) == (ns.length : Int)) = true := by rw [m1]; simp
            have z1 : ((S.size + 2 : Nat) : Int) = (S.size : Int) + 2 := by omega
            have z2 : (S.size : Int) + 2 ≤ (Q2.size : Int) := by omega
            have z3 : (0 : Int) ≤ (S.size : Int) + 2 := by omega
            have z4 : ((S.size : Int) + 2).toNat = S.size + 2 := by omega
            rw [z1] at hP
            have HP := Lib.hid hP
            have HM4 := Lib.hid m4
            have HM5 := Lib.hid m5
            have HM6 := Lib.hid m6
            clear hrel hP m2 m3 m4 m5 m6 t1
            go_wp2_with (go_at_call 12; (with_reducible refine (HP.out _ (HR.out.later hbel)).mono ?_); rintro e w3 ⟨v3, rfl, hown3, hb3⟩; have tb := hbel.trans (hb3.mono hz); have hs3 := ownsG.sees hown3 (Nat.le_refl _); obtain ⟨p3, c3, rfl, hc3, hM3⟩ := hs3.form)
            rw [m1] at hs3
            have HR3 := Lib.hid (HR.out.later tb)
            go_loopw [12] (fun iv wr => ∃ i : Nat, iv = .int .i64 i ∧ i ≤ ns.length ∧ Below w3.heap.size w3 wr) (fun iv _ => ns.length - (intOf iv).toNat)
            case atStart => exact ⟨0, by first | rfl | trivial, by omega, Below.refl _ _⟩
            case round =>
              obtain ⟨i, rfl, hi2, hbq⟩ := hrel
              have hzq := hbq.size
              by_cases hlt2 : i < ns.length
              · rcases HA.out with rfl | ⟨ga, oa, rfl, hA⟩
                · simp at hlt2
                · rcases HB.out with rfl | ⟨gb, ob, rfl, hB⟩
                  · exact absurd (Nat.lt_of_lt_of_le hlt2 a2) (by simp)
                  · rcases hM3 with rfl | ⟨g3, rfl, hg3, hM⟩
                    · rw [← m1] at hlt2; simp at hlt2
                    · have hi3 : i < m.length := by omega
                      have C1 := cell_later tb (hA i hlt2)
                      have C2 := cell_later tb (hB i (by omega))
                      have CA := Lib.hid (fun k hk => cell_later tb (hA k hk))
                      obtain ⟨k0, k1, k2, k3⟩ := fld_cells (hM i hi3)
                      obtain ⟨⟨x1, P, e1, e2, e3, e4, e5, e6⟩, n1, n2⟩ := HM5.out i hlt2 (by omega) hi3
                      obtain ⟨V0, tV, f1, f2⟩ := HM6.out i hlt2
                      rw [e1] at k0 k1 k2 k3 e3
                      have k0 : w3.cell? ⟨g3, i * 4, none⟩ = some (.string ns[i]) := k0
                      have k1 : w3.cell? ⟨g3, i * 4 + 1, none⟩ = some (.string x1) := k1
                      have k2 : w3.cell? ⟨g3, i * 4 + 2, none⟩ = some (.string P) := k2
                      have k3 : w3.cell? ⟨g3, i * 4 + 3, none⟩ = some (.bool false) := k3
                      have hPut := fun w => put_any ns[i] vs[i] w (by omega) (by omega)
                      rw [← e2, toB_back] at hPut
                      have hPar := fun w' hr => parse_rt P w' hr (by omega)
                      unfold ParIs at hPar
                      rw [e3, e4] at hPar
                      have hAll := fun va w' hr hM => all_rt va m ns[i] w' hr (by omega) (by omega) HM4.out hM
                      have hGet := fun va w' hr hM => get_rt va m ns[i] w' hr (by omega) (by omega) HM4.out hM
                      rw [f1] at hAll hGet
                      obtain ⟨M, hMe⟩ : ∃ M, M = manyN ns[i].data.toList ns ns.length := ⟨_, rfl⟩
                      rw [← hMe] at f2
                      have hM0 : 0 < M := by rw [← f2]; simp
                      have hM20 : M ≤ 20 := by have := many_le ns[i].data.toList ns ns.length; omega
                      have hAll : ∀ va w', Rt w' → seesG fldLay w' w'.heap.size 29 va m → Calls Tryz.prog 22 #[va, .string ns[i]] w' fun e w1 => ∃ g c, e = .returned (.slice (some ⟨g, 0, none⟩) M c) ∧ M ≤ c ∧ w1.cell? ⟨g, 0, none⟩ = some (.string V0) ∧ Below w'.heap.size w' w1 := fun va w' hr hM => by
                        refine (hAll va w' hr hM).mono fun e w1 ⟨v, he, ho, hb⟩ => ?_
                        obtain ⟨g, c, hv, hc, hcell⟩ := strs_sliceA ho (by omega)
                        rw [f2] at hv hc
                        exact ⟨g, c, by rw [he, hv], hc, hcell 0 (by omega), hb⟩
                      have hGet : ∀ va w', Rt w' → seesG fldLay w' w'.heap.size 29 va m → Calls Tryz.prog 13 #[va, .string ns[i]] w' fun e w1 => e = .returned (.tuple #[.string V0, .bool true]) ∧ Below w'.heap.size w' w1 := fun va w' hr hM => hGet va w' hr hM
                      obtain ⟨N, hN⟩ : ∃ N, N = ns[i] := ⟨_, rfl⟩
                      rw [← hN] at C1 k0 hPut hPar hAll hGet hMe n1
                      generalize vs[i] = x at *
                      have hSm1 := fun k (hk : k < ns.length) (hz : ns[k].size ≤ 1000000) w => rsmall_any ns[k] w (by omega)
                      have hSm2 := fun w => rsmall_any N w (by omega)
                      have hNS : ∀ k (hk : k < ns.length), ns[k].size ≤ 1000000 := fun k hk => by have := (HM5.out k hk (by omega) (by omega)).n1; omega
                      have HPut := Lib.hid hPut
                      have HPar := Lib.hid hPar
                      have HAll := Lib.hid hAll
                      have HGet := Lib.hid hGet
                      have HNS := Lib.hid hNS
                      have HMe := Lib.hid hMe
                      have c1 := cell_later hbq C1
                      have c2 := cell_later hbq C2
                      have z0 : (0 : Int) ≤ (i : Int) := by omega
                      have z1 : (i : Int) < (ns.length : Int) := by omega
                      have z2 : (i : Int) < (vs.length : Int) := by omega
                      clear hA hB hM e1 e2 e3 e4 f1 f2 hPut hPar hAll hGet hSm1 hSm2 hNS hMe hN hq1 hq2 t2
                      go_wp2
                      go_region_held3 (fun W => W.cell? ⟨ga, oa + i, none⟩ = some (.string N) ∧ W.cell? ⟨gb, ob + i, none⟩ = some (.string x)) (exact ⟨by assumption, by assumption⟩) (first
                        | (go_at_call 11; (with_reducible refine (HPut.out _).mono ?_); rintro e w4 ⟨rfl, hb4⟩; have hbq := hbq.drew.trans (hb4.mono (show w3.heap.size ≤ wr.drew.heap.size from hzq)); have c1 := cell_later hbq C1; have c2 := cell_later hbq C2)
                        | (go_at_call 12; (with_reducible refine (HPar.out _ (HR3.out.later hbq)).mono ?_); rintro e w5 ⟨v5, rfl, hown5, hb5⟩; have hs5 := ownsG.sees hown5 (Nat.le_refl _); have hbq := hbq.trans (hb5.mono hbq.size); obtain ⟨g5, c5, rfl, hc5, hg5, hcell5⟩ := sees_slice hs5 1 rfl (by decide); have c1 := cell_later hbq C1; have c2 := cell_later hbq C2) | fail)
                      obtain ⟨d0, d1, d2, d3⟩ := hcell5 0 Nat.one_pos
                      have d0 : w5.cell? ⟨g5, 0, none⟩ = some (.string N) := d0
                      have d1 : w5.cell? ⟨g5, 1, none⟩ = some (.string x1) := d1
                      have d2 : w5.cell? ⟨g5, 2, none⟩ = some (.string P) := d2
                      have d3 : w5.cell? ⟨g5, 3, none⟩ = some (.bool false) := d3
                      have k0 := cell_later hbq k0
                      have k1 := cell_later hbq k1
                      have k2 := cell_later hbq k2
                      have k3 := cell_later hbq k3
                      clear hcell5 hs5 hown5
                      try dsimp only [List.append]
                      go_wp2
                      go_quiet (fail)
                      have hbq := hbq.trans ((drewN_below w5 nq).mono hbq.size)
                      generalize w5.drewN nq = wn at hbq ⊢
                      have c1 := cell_later hbq C1
                      have hbn := Below.refl wn.heap.size wn
                      clear d0 d1 d2 d3 k0 k1 k2 k3 hb4 hb5
                      go_wp2_with (go_at_call 22; (with_reducible refine (HAll.out _ _ (HR3.out.later hbq) (sees_later hs3 hbq)).mono ?_); rintro e w6 ⟨g6, c6, rfl, hc6, hv6, hb6⟩; have hbq := hbq.trans (hb6.mono hbq.size))
                      go_loopw [16, 17] (fun mv kv wr => ∃ k q : Nat, mv = .int .i64 q ∧ kv = .int .i64 k ∧ k ≤ ns.length ∧ Below w6.heap.size w6 wr ∧ q ≤ k ∧ Hid (q = manyN N.data.toList ns k)) (fun _ kv _ => ns.length - (intOf kv).toNat)
                      case atStart => exact ⟨0, 0, by first | rfl | trivial, by first | rfl | trivial, by omega, Below.refl _ _, by omega, show _ = _ from (many_zero _ _).symm⟩
                      case round =>
                        obtain ⟨k, q, rfl, rfl, hk, hbk, hqk, hq⟩ := hrel
                        have hbq2 := hbq.trans (hbk.mono hbq.size)
                        by_cases hlt3 : k < ns.length
                        · have b1 := cell_later hbq2 (CA.out k hlt3)
                          have b2 := cell_later hbq2 C1
                          have hSm1 := fun w => rsmall_any ns[k] w (by have := HNS.out k hlt3; omega)
                          have hSm2 := fun w => rsmall_any N w (by omega)
                          have hst := many_step N.data.toList ns k hlt3
                          rw [← hq.out] at hst
                          have y0 : (0 : Int) ≤ (k : Int) := by omega
                          have y1 : (k : Int) < (ns.length : Int) := by omega
                          have hbd := (Below.refl wr.heap.size wr).drew
                          generalize ns[k] = K at b1 hSm1 hst
                          by_cases he : smallL K.data.toList = smallL N.data.toList
                          · rw [if_pos he] at hst
                            rw [he] at hSm1
                            generalize toB (smallL N.data.toList) = A at hSm1 hSm2
                            have HSm1 := Lib.hid hSm1
                            have HSm2 := Lib.hid hSm2
                            have hq1 := Lib.hid hst.symm
                            clear hSm1 hSm2 hst he hq
                            go_wp2
                            go_region_held3 (fun W => W.cell? ⟨ga, oa + k, none⟩ = some (.string K) ∧ W.cell? ⟨ga, oa + i, none⟩ = some (.string N)) (exact ⟨by assumption, by assumption⟩) (first
                              | (go_at_call 23; (with_reducible refine (HSm1.out _).mono ?_); rintro e w7 ⟨rfl, hb7⟩; have b1 := cell_later hb7 b1; have b2 := cell_later hb7 b2; have hbd := hbd.trans (hb7.mono hbd.size))
                              | (go_at_call 23; (with_reducible refine (HSm2.out _).mono ?_); rintro e w8 ⟨rfl, hb8⟩; have b1 := cell_later hb8 b1; have b2 := cell_later hb8 b2; have hbd := hbd.trans (hb8.mono hbd.size)) | fail)
                            all_goals
                              go_wp2
                              go_roundw
                              case rel => exact ⟨k + 1, q + 1, by go_num, by go_num, by omega, hbk.trans (hbd.mono hbk.size), by omega, hq1⟩
                              case measure => simp [intOf]; omega
                          · rw [if_neg he, Nat.add_zero] at hst
                            have hAB : ((toB (smallL K.data.toList)).toList == (toB (smallL N.data.toList)).toList) = false := by
                              rw [Lib.toList_data, Lib.toList_data, toB_data, toB_data]
                              exact beq_eq_false_iff_ne.2 he
                            generalize toB (smallL K.data.toList) = A at hSm1 hAB
                            generalize toB (smallL N.data.toList) = B at hSm2 hAB
                            have HSm1 := Lib.hid hSm1
                            have HSm2 := Lib.hid hSm2
                            have hq1 := Lib.hid hst.symm
                            clear hSm1 hSm2 hst he hq
                            go_wp2
                            go_region_held3 (fun W => W.cell? ⟨ga, oa + k, none⟩ = some (.string K) ∧ W.cell? ⟨ga, oa + i, none⟩ = some (.string N)) (exact ⟨by assumption, by assumption⟩) (first
                              | (go_at_call 23; (with_reducible refine (HSm1.out _).mono ?_); rintro e w7 ⟨rfl, hb7⟩; have b1 := cell_later hb7 b1; have b2 := cell_later hb7 b2; have hbd := hbd.trans (hb7.mono hbd.size))
                              | (go_at_call 23; (with_reducible refine (HSm2.out _).mono ?_); rintro e w8 ⟨rfl, hb8⟩; have b1 := cell_later hb8 b1; have b2 := cell_later hb8 b2; have hbd := hbd.trans (hb8.mono hbd.size)) | fail)
                            all_goals
                              go_wp2
                              go_roundw
                              case rel => exact ⟨k + 1, q, by first | rfl | trivial, by go_num, by omega, hbk.trans (hbd.mono hbk.size), by omega, hq1⟩
                              case measure => simp [intOf]; omega
                        · obtain rfl : k = ns.length := by omega
                          have hqM : q = M := hq.out.trans HMe.out.symm
                          subst hqM
                          have b2 := cell_later hbq2 C1
                          have hv6 := cell_later hbk hv6
                          have y0 : (0 : Int) < (q : Int) := by omega
                          clear hq HMe
                          go_wp2_with (go_at_call 13; (with_reducible refine (HGet.out _ _ (HR3.out.later hbq2) (sees_later hs3 hbq2)).mono ?_); rintro e w9 ⟨rfl, hb9⟩; have hbq2 := hbq2.trans (hb9.mono hbq2.size); have hv6 := cell_later hb9 hv6)
                          go_roundw
                          case rel => exact ⟨i + 1, by go_num, by omega, hbq2⟩
                          case measure => simp [intOf]; omega
              · go_wp2
                go_ret
                exact ⟨rfl, tb.trans (hbq.mono tb.size)⟩
      · have q3 : decide ((3000 : Int) < (b.size : Int)) = true := decide_eq_true (by omega)
        have p3 : decide (3000 < b.size) = true := decide_eq_true (by omega)
        go_enter Tryz.func6, Tryz.ntmps6
        go_wp2_with (go_at_call 8; (with_reducible refine HS.out.mono ?_); rintro e w1 ⟨rfl, hb1⟩)
        go_ret
        exact ⟨rfl, hb1⟩
    · have q2 : decide ((vs.length : Int) < (ns.length : Int)) = true := decide_eq_true (by omega)
      have p2 : decide (vs.length < ns.length) = true := decide_eq_true (by omega)
      go_enter Tryz.func6, Tryz.ntmps6
      go_wp2_with (go_at_call 8; (with_reducible refine HS.out.mono ?_); rintro e w1 ⟨rfl, hb1⟩)
      go_ret
      exact ⟨rfl, hb1⟩
  · have q1 : decide ((20 : Int) < (ns.length : Int)) = true := decide_eq_true (by omega)
    have p1 : decide (20 < ns.length) = true := decide_eq_true (by omega)
    go_enter Tryz.func6, Tryz.ntmps6
    go_wp2_with (go_at_call 8; (with_reducible refine HS.out.mono ?_); rintro e w1 ⟨rfl, hb1⟩)
    go_ret
    exact ⟨rfl, hb1⟩
end Go.Proofs.YthchklbnkojkgaaGreatDoor
