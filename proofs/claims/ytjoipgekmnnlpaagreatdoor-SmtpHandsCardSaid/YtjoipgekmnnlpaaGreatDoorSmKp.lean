/- Walks: chapter 22's law functions: has; SmtpKeeps. -/
import Derived.Test.YtjoipgekmnnlpaaGreatDoorSmPc
namespace Sm
open Go Lx C1

theorem step_len {most : Nat} (hm : most ≤ 65536) (l : List UInt8) (st : Ses) : (stepW most st l).2.length ≤ 300 := by
  unfold stepW
  cases st.body with
  | none => exact command_len hm l
  | some b =>
    show (lineW most st b l).2.length ≤ 300
    unfold lineW
    have h1 := rep_len 500
    have h2 := rep_len 552
    split
    · exact Nat.zero_le _
    · split
      · show (repW 500).length ≤ 300; omega
      · split
        · show (repW 552).length ≤ 300; omega
        · exact Nat.zero_le _
theorem ans_len (st : Ses) (e : Int) : (answerW st e).2.length ≤ 50 := by
  unfold answerW
  split
  · exact Nat.zero_le _
  · exact rep_len _
theorem full_len {most : Nat} (hm : most ≤ 65536) (an : Nat → Int) : ∀ (L : List (List UInt8)) (st : Ses) (n : Nat), (fullW most an st n L).2.1.length ≤ 400 * L.length
  | [], _, _ => Nat.zero_le _
  | l :: r, st, n => by
    rw [fullW_cons, List.length_cons]
    have h1 := step_len hm l st
    split
    · exact Nat.zero_le _
    · split
      · have h2 := ans_len (stepW most st l).1 (an n)
        have h3 := full_len hm an r (answerW (stepW most st l).1 (an n)).1 (n + 1)
        simp only [List.length_append]
        omega
      · have h3 := full_len hm an r (stepW most st l).1 n
        simp only [List.length_append]
        omega
theorem whole_keeps {most : Nat} (hm : most ≤ 65536) (an : Nat → Int) (cs : List (List UInt8)) (N : Nat) (hz : cs.flatten.length ≤ N) (hc : ∀ c ∈ cs, c.length ≤ 7000) :
    (wholeW most an 7000 ⟨begin0, [], []⟩ cs).out.length ≤ 400 * N ∧ OutOk (wholeW most an 7000 ⟨begin0, [], []⟩ cs).out (wholeW most an 7000 ⟨begin0, [], []⟩ cs).s.st.over ∧ ∀ m ∈ (wholeW most an 7000 ⟨begin0, [], []⟩ cs).mails, EnvOk most m := by
  have hq0 : Quiet begin0 := ⟨rfl, fun e => absurd rfl e⟩
  obtain ⟨-, -, a3, a4, a5⟩ := whole_full most an 7000 cs ⟨begin0, [], []⟩ hq0 (fun r c hx => Nat.le_trans (pushW_count c r) (hc c hx))
  rw [a3, a4, a5]
  obtain ⟨-, k2, k3⟩ := full_ok most an (pushW ([] : List UInt8) cs.flatten).1 new0 0 (inv0 most) rfl rfl
  have h1 := full_len hm an (pushW ([] : List UInt8) cs.flatten).1 new0 0
  have h2 := pushW_count cs.flatten []
  refine ⟨?_, k2, k3⟩
  show (fullW most an new0 0 (pushW [] cs.flatten).1).2.1.length ≤ 400 * N
  exact Nat.le_trans h1 (Nat.mul_le_mul_left _ (Nat.le_trans h2 hz))
theorem keep_rows {o : List UInt8} {fin : Bool} (h : OutOk o fin) : ∃ rows : List (Nat × List UInt8), linN o = rows.map (·.2) ∧ (∀ r ∈ rows, okRow r) ∧ (∀ i (hi : i < rows.length), i + 1 < rows.length → rows[i].1 ≠ 221) ∧
    (∀ i (hi : i < rows.length), i + 1 = rows.length → (fin = true ↔ rows[i].1 = 221)) ∧ (rows.length = 0 → fin = false) := by
  obtain ⟨rows, rfl, h1, h2⟩ := h
  refine ⟨rows, linN_rows rows h1, h1, ?_⟩
  cases fin with
  | true =>
    rw [if_pos rfl] at h2
    obtain ⟨init, l, rfl, h3⟩ := h2
    refine ⟨fun i hi hl => ?_, fun i hi hl => ?_, fun hl => ?_⟩
    · rw [List.length_append, List.length_singleton] at hl
      rw [List.getElem_append_left (by omega)]
      exact h3 _ (List.getElem_mem _)
    · rw [List.length_append, List.length_singleton] at hl
      rw [List.getElem_append_right (by omega)]
      simp
    · simp at hl
  | false =>
    rw [if_neg (by decide)] at h2
    exact ⟨fun i hi _ => h2 _ (List.getElem_mem _), fun i hi _ => ⟨fun e => (by cases e), fun e => absurd e (h2 _ (List.getElem_mem _))⟩, fun _ => rfl⟩
theorem codes_num : ∀ n ∈ codes, numV (dig3 n) = some n ∧ 221 ≤ n ∧ n ≤ 554 := by decide +kernel
theorem codes_parse : ∀ n ∈ codes, parseL (dig3 n) 221 554 = ((n : Int), true) := by
  intro n hn
  obtain ⟨h1, h2, h3⟩ := codes_num n hn
  have h := numV_parse (dig3 n)
  rw [h1] at h
  unfold parseL pickR at h ⊢
  cases hp : prs (dig3 n) with
  | none => rw [hp] at h; simp at h
  | some v =>
    rw [hp] at h
    simp only at h ⊢
    split at h
    · have e : v = (n : Int) := congrArg Prod.fst h
      rw [e, if_pos (by omega)]
    · simp at h
theorem codes_small : ∀ n ∈ codes, n < 1000 := by decide +kernel
end Sm
namespace Go.Proofs.YtjoipgekmnnlpaaGreatDoor
open Go.RowKit Go.Shelf Go.Lib Pk Sm

section
variable {G B : Nat} {w w' V : World} {most : Nat}
theorem row_facts {r : Nat × List UInt8} (h : okRow r) : ∃ h3 : 3 < (bt r.2).size, 7 ≤ (bt r.2).size ∧ (bt r.2).extract 0 3 = bt (dig3 r.1) ∧ (bt r.2).extract ((bt r.2).size - 2) (bt r.2).size = ⟨#[13, 10]⟩ ∧ ((bt r.2)[3] = 32 ∨ (bt r.2)[3] = 45) ∧ r.1 ∈ codes := by
  obtain ⟨d, t, h1, h2, h3, -, h5⟩ := h
  have hd3 : (dig3 r.1).length = 3 := rfl
  have hsz : (bt r.2).size = r.2.length := (bt_ex _).elim fun A e => by rw [← e.1]; exact e.2.2
  have hl : r.2.length = 3 + 1 + t.length + 2 := by rw [h1]; simp [hd3]; omega
  have ht : 0 < t.length := List.length_pos_iff.2 h3
  refine ⟨by omega, by omega, ?_, ?_, ?_, h5⟩
  · rw [ext_to, bt_data, h1, List.take_left' hd3]; rfl
  · rw [← bt_back ((bt r.2).extract ((bt r.2).size - 2) (bt r.2).size), ext_from, bt_data, hsz]
    have e : r.2 = (dig3 r.1 ++ d :: t) ++ [13, 10] := by rw [h1]; simp
    have hk : r.2.length - 2 = (dig3 r.1 ++ d :: t).length := by rw [hl]; simp [hd3]; omega
    rw [hk, e, List.drop_left]
    rfl
  · have e : (bt r.2)[3] = d := by
      show r.2.toArray[3]'(by rw [List.size_toArray, hl]; omega) = d
      rw [List.getElem_toArray]
      have : r.2[3]? = some d := by rw [h1, List.getElem?_append_right (by rw [hd3]; omega), hd3]; rfl
      exact Option.some.inj ((List.getElem?_eq_getElem _).symm.trans this)
    rw [e]; exact h2
set_option maxHeartbeats 1000000 in
set_option maxRecDepth 100000 in
theorem has_any (p : Option Addr) (c : Nat) (L : List ByteArray) (x : ByteArray) (hp : RcpC w p L) (hL : L.length ≤ 1000000) : Calls Tryz.prog 27 #[.slice p L.length c, .string x] w fun e w' => e = .returned (.bool (containsS L x)) ∧ w' = w := by
  have HP := Lib.hid hp
  clear hp
  go_enter Tryz.func27, Tryz.ntmps27
  go_wp2
  go_loopg [5] L.length (fun g iv wr => ∃ i : Nat, i + g = L.length ∧ iv = .int .i64 i ∧ wr = w ∧ Hid (∀ y ∈ L.take i, y ≠ x))
  case atStart => exact ⟨0, by omega, rfl, rfl, fun y hy => by cases hy⟩
  case round =>
    obtain ⟨i, hi, rfl, rfl, hN⟩ := hrel
    by_cases hl : i < L.length
    · have u1 : decide ((i : Int) < (L.length : Int)) = true := decide_eq_true (by omega)
      have u3 : (i : Int) < (L.length : Int) := by omega
      have u6 : IntKind.i64.wrap ((i : Int) + 1) = (i : Int) + 1 := w64 rfl (by omega) (by omega)
      rcases HP.out with hp | ⟨g, o, rfl, hcell⟩
      · rw [hp] at hl; cases hl
      · have hx := hcell i hl
        by_cases he : L[i] = x
        · rw [he] at hx
          have hm : containsS L x = true := (containsS_iff _ _).2 (by rw [← he]; exact List.getElem_mem hl)
          have Hc := Lib.hid (And.intro hm hi)
          clear hcell he hm hi hl
          go_wp2
          go_ret
          exact ⟨by rw [Hc.out.1]; rfl, rfl⟩
        · obtain ⟨Sx, hSx⟩ : ∃ Sx, Sx = L[i] := ⟨_, rfl⟩
          rw [← hSx] at hx he
          have q1 : (Sx.toList == x.toList) = false := by
            rw [beq_eq_false_iff_ne]
            intro e
            rw [Lib.toList_data, Lib.toList_data] at e
            exact he (by rw [← bt_back Sx, ← bt_back x, e])
          have q2 : (Sx.toList = x.toList) = False := by
            rw [eq_iff_iff, iff_false]
            intro e
            rw [e] at q1
            simp at q1
          have q3 : decide (Sx = x) = false := decide_eq_false he
          have Hc := Lib.hid (And.intro he (And.intro hSx (And.intro hi hl)))
          clear hcell he hSx hi
          go_wp2
          go_roundg (L.length - (i + 1))
          case rel =>
            refine ⟨i + 1, by have := Hc.out; omega, rfl, rfl, fun y hy => ?_⟩
            rw [List.take_succ_eq_append_getElem Hc.out.2.2.2] at hy
            rcases List.mem_append.1 hy with hy | hy
            · exact hN.out y hy
            · rw [List.mem_singleton.1 hy, ← Hc.out.2.1]; exact Hc.out.1
          case measure => have := Hc.out; omega
    · have u1 : decide ((i : Int) < (L.length : Int)) = false := decide_eq_false (by omega)
      have u2 : decide (i < L.length) = false := decide_eq_false hl
      have hm : containsS L x = false := by
        rw [Bool.eq_false_iff]
        intro hx
        have := hN.out x (by rw [List.take_of_length_le (by omega)]; exact (containsS_iff _ _).1 hx)
        exact this rfl
      have Hc := Lib.hid hm
      clear hm hi hl
      go_wp2
      go_ret
      exact ⟨by rw [Hc.out]; rfl, rfl⟩
theorem ownsS.rcp {B : Nat} {e : TypeId} {v : Value} {l : List ByteArray} (h : ownsS w B e v l) : ∃ p c, v = .slice p l.length c ∧ l.length ≤ c ∧ RcpC w p l := by
  rcases h.form with ⟨rfl, rfl⟩ | ⟨g, cap, rfl, -, hc, -, hcell⟩
  · exact ⟨none, 0, rfl, Nat.le_refl _, .inl rfl⟩
  · exact ⟨_, _, rfl, hc, .inr ⟨g, 0, rfl, fun j hj => by rw [Nat.zero_add]; exact hcell j hj⟩⟩
theorem RcpC.below {p : Option Addr} {L : List ByteArray} (h : RcpC w p L) (hb : Below w.heap.size w w') : RcpC w' p L := by
  rcases h with h | ⟨g, o, h1, h2⟩
  · exact .inl h
  · exact .inr ⟨g, o, h1, fun j hj => cell_later hb (h2 j hj)⟩
def RowsOk (Ov : Bool) (rows : List (Nat × List UInt8)) : Prop := (∀ r ∈ rows, okRow r) ∧ (∀ i (hi : i < rows.length), i + 1 < rows.length → rows[i].1 ≠ 221) ∧ (∀ i (hi : i < rows.length), i + 1 = rows.length → (Ov = true ↔ rows[i].1 = 221)) ∧ (rows.length = 0 → Ov = false)
set_option maxHeartbeats 4000000 in
set_option maxRecDepth 100000 in
theorem smtpKeeps_any (m0 : Int) (lv av : Value) (ns : List ByteArray) (ans : List Int) (hC : Ctx G w) (hL : StrIn w lv ns) (hA : IntIn .i64 w.heap.size w av ans) : Calls Tryz.prog 6 #[.int .i64 m0, lv, av] w fun e w' => e = .returned (.bool true) ∧ Below w.heap.size w w' := by
  have HC := Lib.hid (Ctx.self hC)
  have HS := Lib.hid (small_any w hC)
  have HA := Lib.hid hA
  have HL := Lib.hid hL
  clear hC hA hL
  go_enter Tryz.func6, Tryz.ntmps6
  go_wp2_with fail
  refine HS.out.mono ?_
  rintro e w1 ⟨rfl, hb1⟩
  have HF := Lib.hid (few_any _ ns (HL.out.below hb1))
  have HB1 := Lib.hid hb1
  clear hb1
  go_wp2_with fail
  refine HF.out.mono ?_
  rintro e w2 ⟨Bf, rfl, rfl, hBf⟩
  cases Bf with
  | false =>
    clear hBf
    go_wp2
    go_ret
    exact ⟨rfl, HB1.out⟩
  | true =>
    obtain ⟨hn60, hz6⟩ := hBf rfl
    clear hBf
    have hm := (clampM_le m0).2
    have hns : ∀ x ∈ ns, x.size ≤ 6000 := fun x hx => by
      obtain ⟨j, hj, rfl⟩ := List.getElem_of_mem hx
      have h1 := sumZ_take ns j hj
      have h2 := sumZ_all ns (j + 1)
      omega
    have hflen : (lsB ns).flatten.length ≤ 6000 := by
      have h1 := catB_size ns ns.length
      rw [List.take_length] at h1
      have h2 : (bt (lsB ns).flatten).size = (lsB ns).flatten.length := (bt_ex _).elim fun A e => by rw [← e.1]; exact e.2.2
      unfold catB at h1
      rw [List.take_length] at h1
      omega
    have hcl : ∀ c ∈ lsB ns, c.length ≤ 7000 := fun c hc => by obtain ⟨x, hx, rfl⟩ := List.mem_map.1 hc; have := hns x hx; have e : x.data.toList.length = x.size := rfl; omega
    obtain ⟨kp1, kp2, kp3⟩ := whole_keeps hm (anL ans) (lsB ns) 6000 hflen hcl
    have hct := whole_cnt (clampM m0) (anL ans) (lsB ns) 6000 hflen hcl
    have hW1 := whole_any m0 _ av ns ans (HC.out.below HB1.out) (HL.out.below HB1.out) hn60 hz6 (HA.out.keeps (fun g hg => HB1.out.block g hg) HB1.out.size)
    obtain ⟨F1, hF1⟩ : ∃ F1, F1 = wholeW (clampM m0) (anL ans) 7000 ⟨begin0, [], []⟩ (lsB ns) := ⟨_, rfl⟩
    rw [← hF1] at kp1 kp2 kp3 hct hW1
    obtain ⟨rows, rw1, rw2, rw3, rw4, rw5⟩ := keep_rows kp2
    obtain ⟨U, hU⟩ : ∃ U, U = bt F1.out := ⟨_, rfl⟩
    obtain ⟨M, hM⟩ : ∃ M, M = F1.mails := ⟨_, rfl⟩
    obtain ⟨Ov, hOv⟩ : ∃ Ov, Ov = F1.s.st.over := ⟨_, rfl⟩
    unfold WhoIs at hW1
    rw [← hU, ← hM, ← hOv] at hW1
    rw [← hM] at kp3 hct
    rw [← hOv] at rw4 rw5
    have hUs : U.size ≤ 10000000 := by rw [hU]; exact (bt_ex F1.out).elim fun A e => by rw [← e.1, e.2.2]; omega
    have hUl : linB U = rows.map (fun r => bt r.2) := by
      show (Lx.linN U.data.toList).map bt = _
      rw [hU, bt_data, rw1, List.map_map]
      rfl
    have hrl : rows.length ≤ 10000000 := by
      have h1 := linB_len U
      rw [hUl, List.length_map] at h1
      omega
    have hrs : ∀ r ∈ rows, (bt r.2).size ≤ 10000000 := fun r hr => by
      have h1 : r.2 ∈ Lx.linN F1.out := by rw [rw1]; exact List.mem_map_of_mem hr
      have h2 := (Lx.linN_ne _ _ h1).2
      have h3 : (bt r.2).size = r.2.length := (bt_ex _).elim fun A e => by rw [← e.1]; exact e.2.2
      omega
    have HW := Lib.hid (And.intro hUs (And.intro hUl (And.intro hrl (And.intro (show RowsOk Ov rows from ⟨rw2, rw3, rw4, rw5⟩) (And.intro kp3 (And.intro hct (And.intro hm hrs)))))))
    have HW1 := Lib.hid hW1
    clear hn60 hz6 hns hflen hcl kp1 kp2 kp3 hct hW1 rw1 rw2 rw3 rw4 rw5 hU hM hOv hUs hUl hrl hF1 hm hrs
    go_wp2_with fail
    refine HW1.out.mono ?_
    rintro e w3 ⟨mv1, rfl, hm1, hb3⟩
    obtain ⟨p1, c1, rfl, hc1⟩ := hm1.form
    have hB3 := HB1.out.trans (hb3.mono HB1.out.size)
    obtain ⟨q, hq⟩ := (HC.out.below hB3).max
    have hSp := split_any U w3 HW.out.1 q hq
    rw [HW.out.2.1] at hSp
    have HSp := Lib.hid hSp
    have H3 := Lib.hid (And.intro hm1 hB3)
    clear hm1 hb3 hB3 hq hSp
    go_wp2_with fail
    refine HSp.out.mono ?_
    rintro e w4 ⟨rv, rfl, hrv, hb4⟩
    obtain ⟨pr, cr, rfl, hcr, hrc⟩ := ownsS.rcp hrv
    rw [List.length_map] at hcr ⊢
    have HR := Lib.hid hrc
    have H4 := Lib.hid (And.intro (H3.out.1.below hb4) (H3.out.2.trans (hb4.mono H3.out.2.size)))
    clear hrv hb4 hrc
    obtain ⟨Nr, hNr⟩ : ∃ Nr, Nr = rows.length := ⟨_, rfl⟩
    rw [← hNr] at hcr ⊢
    have HNr := Lib.hid hNr
    clear hNr
    go_wp2_with fail
    go_loopg [12] Nr (fun g iv wr => ∃ i : Nat, i + g = Nr ∧ iv = .int .i64 i ∧ Hid (Below w4.heap.size w4 wr))
    case atStart => exact ⟨0, by omega, rfl, Below.refl _ _⟩
    case round =>
      obtain ⟨i, hi, rfl, hbw⟩ := hrel
      by_cases hl : i < Nr
      · have u1 : decide ((i : Int) < (Nr : Int)) = true := decide_eq_true (by omega)
        have u3 : (i : Int) < (Nr : Int) := by omega
        have hlr : i < rows.length := by rw [← HNr.out]; exact hl
        have hbig := HW.out.2.2.1
        have hNr2 := HNr.out
        have u6 : IntKind.i64.wrap ((i : Int) + 1) = (i : Int) + 1 := w64 rfl (by omega) (by omega)
        have u7 : IntKind.i64.wrap ((Nr : Int) - 1) = (Nr : Int) - 1 := w64 rfl (by omega) (by omega)
        obtain ⟨k1, k2, k3, -⟩ := HW.out.2.2.2.1
        rcases HR.out with hp | ⟨g, o, rfl, hcell⟩
        · exact absurd hlr (by rw [List.map_eq_nil_iff.1 hp]; simp)
        · have hx := cell_later hbw.out (hcell i (by rw [List.length_map]; exact hlr))
          rw [List.getElem_map] at hx
          have hok := k1 _ (List.getElem_mem hlr)
          have hk2 := k2 i hlr
          have hk3 := k3 i hlr
          obtain ⟨f3, f7, fa, fb, fc, fd⟩ := row_facts hok
          obtain ⟨n, hn⟩ : ∃ n, n = rows[i].1 := ⟨_, rfl⟩
          rw [← hn] at fa fd hk2 hk3
          have hRB := HW.out.2.2.2.2.2.2.2 _ (List.getElem_mem hlr)
          generalize bt rows[i].2 = RW at *
          have hpz := codes_parse n fd
          have hns := codes_small n fd
          obtain ⟨ev, hev1, hev2⟩ := (HC.out.below (H4.out.2.trans (hbw.out.mono H4.out.2.size))).err
          have hPa := parse_any (bt (dig3 n)) 221 554 wr (by show 3 ≤ _; decide) ev hev1 hev2
          rw [bt_data, hpz] at hPa
          rw [← fa] at hPa
          have u8 : IntKind.i64.wrap ((RW.size : Int) - 2) = (RW.size : Int) - 2 := w64 rfl (by omega) (by omega)
          have u9 : decide ((RW.size : Int) < 7) = false := decide_eq_false (by omega)
          have u10 : (0 : Int) ≤ (RW.size : Int) - 2 := by omega
          have u11 : (RW.size : Int) - 2 ≤ (RW.size : Int) := by omega
          have u12 : (3 : Int) < (RW.size : Int) := by omega
          have u13 : (3 : Int) ≤ (RW.size : Int) := by omega
          have HPa := Lib.hid hPa
          have HX := Lib.hid (And.intro hi (And.intro hl (hbw.out)))
          have hlast : i + 1 = Nr ∨ i + 1 < Nr := by omega
          rw [← hNr2] at hk2 hk3
          clear hcell hpz hev1 hev2 hPa k1 k2 k3 hbig hNr2 hok fa hRB hbw hi hl hn hlr
          rcases fc with fc | fc
          · have q1 : ((RW[3].toNat : Int) != 32) = false := by rw [fc]; decide
            clear fc
            rcases hlast with hla | hla
            · have t1 : ((i : Int) == (Nr : Int) - 1) = true := beq_iff_eq.2 (by omega)
              have t2 : decide ((i : Int) < (Nr : Int) - 1) = false := decide_eq_false (by omega)
              have hk := hk3 hla
              clear hk2 hk3 hla
              cases Ov with
              | true =>
                have hn2 : n = 221 := hk.1 rfl
                have t3 : ((n : Int) == 221) = true := beq_iff_eq.2 (by omega)
                clear hk hn2
                go_wp2_with fail
                refine HPa.out.mono ?_
                rintro e w6 ⟨rfl, hb6⟩
                have HB6 := Lib.hid (HX.out.2.2.trans (hb6.mono HX.out.2.2.size))
                clear hb6
                go_wp2
                go_roundg (Nr - (i + 1))
                case rel => exact ⟨i + 1, by have := HX.out; omega, rfl, HB6.out⟩
                case measure => have := HX.out; omega
              | false =>
                have t3 : ((n : Int) == 221) = false := beq_eq_false_iff_ne.2 (fun e => by have := hk.2 (by omega); cases this)
                clear hk
                go_wp2_with fail
                refine HPa.out.mono ?_
                rintro e w6 ⟨rfl, hb6⟩
                have HB6 := Lib.hid (HX.out.2.2.trans (hb6.mono HX.out.2.2.size))
                clear hb6
                go_wp2
                go_roundg (Nr - (i + 1))
                case rel => exact ⟨i + 1, by have := HX.out; omega, rfl, HB6.out⟩
                case measure => have := HX.out; omega
            · have t1 : ((i : Int) == (Nr : Int) - 1) = false := beq_eq_false_iff_ne.2 (by omega)
              have t3 : ((n : Int) == 221) = false := beq_eq_false_iff_ne.2 (fun e => hk2 hla (by omega))
              clear hk2 hk3 hla
              cases Ov with
              | true =>
                go_wp2_with fail
                refine HPa.out.mono ?_
                rintro e w6 ⟨rfl, hb6⟩
                have HB6 := Lib.hid (HX.out.2.2.trans (hb6.mono HX.out.2.2.size))
                clear hb6
                go_wp2
                go_roundg (Nr - (i + 1))
                case rel => exact ⟨i + 1, by have := HX.out; omega, rfl, HB6.out⟩
                case measure => have := HX.out; omega
              | false =>
                go_wp2_with fail
                refine HPa.out.mono ?_
                rintro e w6 ⟨rfl, hb6⟩
                have HB6 := Lib.hid (HX.out.2.2.trans (hb6.mono HX.out.2.2.size))
                clear hb6
                go_wp2
                go_roundg (Nr - (i + 1))
                case rel => exact ⟨i + 1, by have := HX.out; omega, rfl, HB6.out⟩
                case measure => have := HX.out; omega
          · have q1 : ((RW[3].toNat : Int) != 32) = true := by rw [fc]; decide
            have q2 : ((RW[3].toNat : Int) != 45) = false := by rw [fc]; decide
            clear fc
            rcases hlast with hla | hla
            · have t1 : ((i : Int) == (Nr : Int) - 1) = true := beq_iff_eq.2 (by omega)
              have t2 : decide ((i : Int) < (Nr : Int) - 1) = false := decide_eq_false (by omega)
              have hk := hk3 hla
              clear hk2 hk3 hla
              cases Ov with
              | true =>
                have hn2 : n = 221 := hk.1 rfl
                have t3 : ((n : Int) == 221) = true := beq_iff_eq.2 (by omega)
                clear hk hn2
                go_wp2_with fail
                refine HPa.out.mono ?_
                rintro e w6 ⟨rfl, hb6⟩
                have HB6 := Lib.hid (HX.out.2.2.trans (hb6.mono HX.out.2.2.size))
                clear hb6
                go_wp2
                go_roundg (Nr - (i + 1))
                case rel => exact ⟨i + 1, by have := HX.out; omega, rfl, HB6.out⟩
                case measure => have := HX.out; omega
              | false =>
                have t3 : ((n : Int) == 221) = false := beq_eq_false_iff_ne.2 (fun e => by have := hk.2 (by omega); cases this)
                clear hk
                go_wp2_with fail
                refine HPa.out.mono ?_
                rintro e w6 ⟨rfl, hb6⟩
                have HB6 := Lib.hid (HX.out.2.2.trans (hb6.mono HX.out.2.2.size))
                clear hb6
                go_wp2
                go_roundg (Nr - (i + 1))
                case rel => exact ⟨i + 1, by have := HX.out; omega, rfl, HB6.out⟩
                case measure => have := HX.out; omega
            · have t1 : ((i : Int) == (Nr : Int) - 1) = false := beq_eq_false_iff_ne.2 (by omega)
              have t3 : ((n : Int) == 221) = false := beq_eq_false_iff_ne.2 (fun e => hk2 hla (by omega))
              clear hk2 hk3 hla
              cases Ov with
              | true =>
                go_wp2_with fail
                refine HPa.out.mono ?_
                rintro e w6 ⟨rfl, hb6⟩
                have HB6 := Lib.hid (HX.out.2.2.trans (hb6.mono HX.out.2.2.size))
                clear hb6
                go_wp2
                go_roundg (Nr - (i + 1))
                case rel => exact ⟨i + 1, by have := HX.out; omega, rfl, HB6.out⟩
                case measure => have := HX.out; omega
              | false =>
                go_wp2_with fail
                refine HPa.out.mono ?_
                rintro e w6 ⟨rfl, hb6⟩
                have HB6 := Lib.hid (HX.out.2.2.trans (hb6.mono HX.out.2.2.size))
                clear hb6
                go_wp2
                go_roundg (Nr - (i + 1))
                case rel => exact ⟨i + 1, by have := HX.out; omega, rfl, HB6.out⟩
                case measure => have := HX.out; omega
      · have u1 : decide ((i : Int) < (Nr : Int)) = false := decide_eq_false (by omega)
        have u2 : decide (i < Nr) = false := decide_eq_false hl
        clear hi hl
        go_wp2_with fail
        obtain ⟨w5, hw5⟩ : ∃ w5, w5 = wr := ⟨_, rfl⟩
        subst hw5
        go_loopg [16] M.length (fun g iv wr2 => ∃ j : Nat, j + g = M.length ∧ iv = .int .i64 j ∧ Hid (Below w4.heap.size w4 wr2))
        case atStart => exact ⟨0, by omega, rfl, hbw⟩
        case round =>
          clear hbw HR
          obtain ⟨j, hj, rfl, hbw⟩ := hrel
          obtain ⟨wr2, hwr2⟩ : ∃ wr2, wr2 = wr := ⟨_, rfl⟩
          subst hwr2
          by_cases hl : j < M.length
          · have u4 : decide ((j : Int) < (M.length : Int)) = true := decide_eq_true (by omega)
            have u5 : (j : Int) < (M.length : Int) := by omega
            have hMl := HW.out.2.2.2.2.2.1
            have u6 : IntKind.i64.wrap ((j : Int) + 1) = (j : Int) + 1 := w64 rfl (by omega) (by omega)
            obtain ⟨g1, o1, F1, q1, n1, d1, Y1, rfl, ⟨-, hY, hRd⟩, -, -, k0, k1, k2⟩ := H4.out.1.at j hl
            obtain ⟨e1, e2, e3, e4, e5⟩ := HW.out.2.2.2.2.1 _ (List.getElem_mem hl)
            obtain ⟨r1, r2, r3⟩ := rcp_cells hRd
            replace hY : Y1 = bt M[j].byt := hY
            replace r1 : n1 = (M[j].rcp.map bt).length := r1
            have hYs : Y1.size ≤ clampM m0 := by rw [hY]; exact (bt_ex _).elim fun A e => by rw [← e.1, e.2.2]; exact e5
            have s1 : ∀ x ∈ M[j].rcp.map bt, 3 ≤ x.size ∧ x.size ≤ 254 := fun x hx => by
              obtain ⟨y, hy, rfl⟩ := List.mem_map.1 hx
              have := e4 y hy
              have h3 : (bt y).size = y.length := (bt_ex _).elim fun A e => by rw [← e.1]; exact e.2.2
              omega
            have s2 : (M[j].rcp.map bt).Nodup := List.Pairwise.map _ (fun a b hab e => hab (bt_inj' e)) e3
            have s3 : 1 ≤ n1 ∧ n1 ≤ 16 := by rw [r1, List.length_map]; exact ⟨e1, e2⟩
            replace r2 : (M[j].rcp.map bt).length ≤ d1 := r2
            replace r3 : RcpC w4 q1 (M[j].rcp.map bt) := r3
            generalize M[j].rcp.map bt = L at *
            have u10 : decide ((n1 : Int) < 1) = false := decide_eq_false (by omega)
            have u11 : decide (16 < (n1 : Int)) = false := decide_eq_false (by omega)
            have u12 : decide (min (max m0 1) 65536 < (Y1.size : Int)) = false := decide_eq_false (by unfold clampM at hYs; omega)
            replace k0 := cell_later hbw.out k0
            replace k1 := cell_later hbw.out k1
            replace k2 := cell_later hbw.out k2
            have HE := Lib.hid (And.intro r1 (And.intro r2 (And.intro r3 (And.intro s1 (And.intro s2 s3)))))
            have HJ := Lib.hid (And.intro hj (And.intro hl hbw.out))
            clear e1 e2 e3 e4 e5 r1 r2 r3 hY hYs s1 s2 s3 hRd hMl hj hl hbw
            go_wp2_with fail
            have hbk : (wr2.alloc (.cells #[.string F1, .slice q1 n1 d1, .string Y1] 35)).heap[wr2.heap.size]? = some (.cells #[.string F1, .slice q1 n1 d1, .string Y1] 35 (0, 0)) := heap_alloc_new wr2 _
            have hb2 : Below wr2.heap.size wr2 (wr2.alloc (.cells #[.string F1, .slice q1 n1 d1, .string Y1] 35)) := (Below.refl _ _).alloc (Nat.le_refl _) _
            generalize (wr2.alloc (.cells #[.string F1, .slice q1 n1 d1, .string Y1] 35)) = W2 at *
            have c1' : W2.cell? ⟨wr2.heap.size, 1, none⟩ = some (.slice q1 n1 d1) := (Lib.cell_of_heap hbk _).trans rfl
            have hbW : Hid (Below w4.heap.size w4 W2) := HJ.out.2.2.trans (hb2.mono HJ.out.2.2.size)
            clear hbk hb2 k0 k1 k2
            go_loopg [18] n1 (fun g kv wr3 => ∃ k : Nat, k + g = n1 ∧ kv = .int .i64 k ∧ wr3.cell? ⟨wr2.heap.size, 1, none⟩ = some (.slice q1 n1 d1) ∧ Hid (Below w4.heap.size w4 wr3))
            case atStart => exact ⟨0, by omega, rfl, c1', hbW⟩
            case round =>
              clear c1' hbW
              obtain ⟨k, hk, rfl, c1', hbk⟩ := hrel
              obtain ⟨r1, r2, r3, s1, s2, s3⟩ := HE.out
              by_cases hkl : k < n1
              · have v1 : decide ((k : Int) < (n1 : Int)) = true := decide_eq_true (by omega)
                have v2 : (k : Int) < (n1 : Int) := by omega
                have v3 : (k : Int) ≤ (d1 : Int) := by omega
                have v4 : (0 : Int) ≤ (k : Int) := by omega
                have v6 : IntKind.i64.wrap ((k : Int) + 1) = (k : Int) + 1 := w64 rfl (by omega) (by omega)
                have hkL : k < L.length := by omega
                rcases r3 with hp | ⟨g2, o2, rfl, hcell⟩
                · rw [hp] at hkL; cases hkL
                · have hy := cell_later hbk.out (hcell k hkL)
                  have hH : ∀ V, Below w4.heap.size w4 V → Calls Tryz.prog 27 #[.slice (some ⟨g2, o2, none⟩) k d1, .string L[k]] V fun e w' => e = .returned (.bool false) ∧ w' = V := fun V hV => by
                    have h9 := has_any (w := V) (some ⟨g2, o2, none⟩) d1 (L.take k) L[k] (.inr ⟨g2, o2, rfl, fun j hj => by
                      rw [List.length_take] at hj
                      rw [List.getElem_take]
                      exact cell_later hV (hcell j (by omega))⟩) (by rw [List.length_take]; omega)
                    have e9 : containsS (L.take k) L[k] = false := by
                      rw [Bool.eq_false_iff]
                      intro hm
                      obtain ⟨j, hj, e⟩ := List.getElem_of_mem ((containsS_iff _ _).1 hm)
                      rw [List.getElem_take] at e
                      rw [List.length_take] at hj
                      exact absurd e (List.pairwise_iff_getElem.1 s2 j k (by omega) hkL (by omega))
                    rw [e9, List.length_take, Nat.min_eq_left (by omega)] at h9
                    exact h9
                  obtain ⟨z1, z2⟩ := s1 _ (List.getElem_mem hkL)
                  obtain ⟨X, hX⟩ : ∃ X, X = L[k] := ⟨_, rfl⟩
                  rw [← hX] at hy hH z1 z2
                  have v7 : decide ((X.size : Int) < 3) = false := decide_eq_false (by omega)
                  have v8 : decide (254 < (X.size : Int)) = false := decide_eq_false (by omega)
                  have HK := Lib.hid (And.intro hk hkl)
                  have HH := Lib.hid hH
                  clear r1 r2 s1 s2 s3 hkL hcell hX z1 z2 hH hk hkl
                  have HBK := Lib.hid hbk.out.drew
                  have hS0 : Hid (wr.drew.cell? ⟨wr2.heap.size, 1, none⟩ = some (.slice (some ⟨g2, o2, none⟩) n1 d1) ∧ wr.drew.cell? ⟨g2, o2 + k, none⟩ = some (.string X)) := ⟨c1', hy⟩
                  clear hbk
                  go_wp2_with fail
                  refine wp_region_heldO (fun V => V.cell? ⟨wr2.heap.size, 1, none⟩ = some (.slice (some ⟨g2, o2, none⟩) n1 d1) ∧ V.cell? ⟨g2, o2 + k, none⟩ = some (.string X)) 28 (by kernel_rfl) rfl hS0.out (fun hHeld => ?_)
                  refine takeO (v := ?_) 0 rfl (by kernel_rfl) (by kernel_rfl) (by kernel_rfl) (by rfl) ?_ hHeld ?_
                  rotate_left
                  · intro w hSw
                    obtain ⟨hSw0, hSw1⟩ := hSw
                    go_simp
                    first | done | with_reducible rfl
                  simp only [Act.put, List.setIfInBounds_toArray, List.set_cons_zero, List.set_cons_succ]
                  refine takeO (v := ?_) 1 rfl (by kernel_rfl) (by kernel_rfl) (by kernel_rfl) (by rfl) ?_ hHeld ?_
                  rotate_left
                  · intro w hSw
                    obtain ⟨hSw0, hSw1⟩ := hSw
                    go_simp
                    first | done | with_reducible rfl
                  simp only [Act.put, List.setIfInBounds_toArray, List.set_cons_zero, List.set_cons_succ]
                  refine takeO (v := ?_) 2 rfl (by kernel_rfl) (by kernel_rfl) (by kernel_rfl) (by rfl) ?_ hHeld ?_
                  rotate_left
                  · intro w hSw
                    obtain ⟨hSw0, hSw1⟩ := hSw
                    go_simp
                    first | done | with_reducible rfl
                  simp only [Act.put, List.setIfInBounds_toArray, List.set_cons_zero, List.set_cons_succ]
                  refine takeO (v := ?_) 3 rfl (by kernel_rfl) (by kernel_rfl) (by kernel_rfl) (by rfl) ?_ hHeld ?_
                  rotate_left
                  · intro w hSw
                    obtain ⟨hSw0, hSw1⟩ := hSw
                    go_simp
                    first | done | with_reducible rfl
                  simp only [Act.put, List.setIfInBounds_toArray, List.set_cons_zero, List.set_cons_succ]
                  refine takeO (v := ?_) 4 rfl (by kernel_rfl) (by kernel_rfl) (by kernel_rfl) (by rfl) ?_ hHeld ?_
                  rotate_left
                  · intro w hSw
                    obtain ⟨hSw0, hSw1⟩ := hSw
                    go_simp
                    first | done | with_reducible rfl
                  simp only [Act.put, List.setIfInBounds_toArray, List.set_cons_zero, List.set_cons_succ]
                  refine takeO (v := ?_) 5 rfl (by kernel_rfl) (by kernel_rfl) (by kernel_rfl) (by rfl) ?_ hHeld ?_
                  rotate_left
                  · intro w hSw
                    obtain ⟨hSw0, hSw1⟩ := hSw
                    go_simp
                    first | done | with_reducible rfl
                  simp only [Act.put, List.setIfInBounds_toArray, List.set_cons_zero, List.set_cons_succ]
                  refine takeO (v := ?_) 6 rfl (by kernel_rfl) (by kernel_rfl) (by kernel_rfl) (by rfl) ?_ hHeld ?_
                  rotate_left
                  · intro w hSw
                    obtain ⟨hSw0, hSw1⟩ := hSw
                    go_simp
                    first | done | with_reducible rfl
                  simp only [Act.put, List.setIfInBounds_toArray, List.set_cons_zero, List.set_cons_succ]
                  refine takeO (v := ?_) 7 rfl (by kernel_rfl) (by kernel_rfl) (by kernel_rfl) (by rfl) ?_ hHeld ?_
                  rotate_left
                  · intro w hSw
                    obtain ⟨hSw0, hSw1⟩ := hSw
                    go_simp
                    first | done | with_reducible rfl
                  simp only [Act.put, List.setIfInBounds_toArray, List.set_cons_zero, List.set_cons_succ]
                  refine takeO (v := ?_) 8 rfl (by kernel_rfl) (by kernel_rfl) (by kernel_rfl) (by rfl) ?_ hHeld ?_
                  rotate_left
                  · intro w hSw
                    obtain ⟨hSw0, hSw1⟩ := hSw
                    go_simp
                    first | done | with_reducible rfl
                  simp only [Act.put, List.setIfInBounds_toArray, List.set_cons_zero, List.set_cons_succ]
                  refine callO (f := 27) (args := #[.slice (some ⟨g2, o2, none⟩) k d1, .string X]) 9 rfl (by kernel_rfl) (by rfl) (by go_simp) ((HH.out _ HBK.out).mono ?_)
                  rintro e w7 ⟨rfl, rfl⟩
                  refine ⟨_, rfl, hHeld, ?_⟩
                  simp only [Act.put, List.setIfInBounds_toArray, List.set_cons_zero, List.set_cons_succ]
                  refine takeO (v := ?_) 10 rfl (by kernel_rfl) (by kernel_rfl) (by kernel_rfl) (by rfl) ?_ hHeld ?_
                  rotate_left
                  · intro w hSw
                    obtain ⟨hSw0, hSw1⟩ := hSw
                    go_simp
                    first | done | with_reducible rfl
                  simp only [Act.put, List.setIfInBounds_toArray, List.set_cons_zero, List.set_cons_succ]
                  refine takeO (v := ?_) 11 rfl (by kernel_rfl) (by kernel_rfl) (by kernel_rfl) (by rfl) ?_ hHeld ?_
                  rotate_left
                  · intro w hSw
                    obtain ⟨hSw0, hSw1⟩ := hSw
                    go_simp
                    first | done | with_reducible rfl
                  simp only [Act.put, List.setIfInBounds_toArray, List.set_cons_zero, List.set_cons_succ]
                  refine takeO (v := ?_) 12 rfl (by kernel_rfl) (by kernel_rfl) (by kernel_rfl) (by rfl) ?_ hHeld ?_
                  rotate_left
                  · intro w hSw
                    obtain ⟨hSw0, hSw1⟩ := hSw
                    go_simp
                    first | done | with_reducible rfl
                  simp only [Act.put, List.setIfInBounds_toArray, List.set_cons_zero, List.set_cons_succ]
                  refine takeO (v := ?_) 13 rfl (by kernel_rfl) (by kernel_rfl) (by kernel_rfl) (by rfl) ?_ hHeld ?_
                  rotate_left
                  · intro w hSw
                    obtain ⟨hSw0, hSw1⟩ := hSw
                    go_simp
                    first | done | with_reducible rfl
                  simp only [Act.put, List.setIfInBounds_toArray, List.set_cons_zero, List.set_cons_succ]
                  refine takeO (v := ?_) 14 rfl (by kernel_rfl) (by kernel_rfl) (by kernel_rfl) (by rfl) ?_ hHeld ?_
                  rotate_left
                  · intro w hSw
                    obtain ⟨hSw0, hSw1⟩ := hSw
                    go_simp
                    first | done | with_reducible rfl
                  simp only [Act.put, List.setIfInBounds_toArray, List.set_cons_zero, List.set_cons_succ]
                  refine takeO (v := ?_) 15 rfl (by kernel_rfl) (by kernel_rfl) (by kernel_rfl) (by rfl) ?_ hHeld ?_
                  rotate_left
                  · intro w hSw
                    obtain ⟨hSw0, hSw1⟩ := hSw
                    go_simp
                    first | done | with_reducible rfl
                  simp only [Act.put, List.setIfInBounds_toArray, List.set_cons_zero, List.set_cons_succ]
                  refine takeO (v := ?_) 16 rfl (by kernel_rfl) (by kernel_rfl) (by kernel_rfl) (by rfl) ?_ hHeld ?_
                  rotate_left
                  · intro w hSw
                    obtain ⟨hSw0, hSw1⟩ := hSw
                    go_simp
                    first | done | with_reducible rfl
                  simp only [Act.put, List.setIfInBounds_toArray, List.set_cons_zero, List.set_cons_succ]
                  refine takeO (v := ?_) 17 rfl (by kernel_rfl) (by kernel_rfl) (by kernel_rfl) (by rfl) ?_ hHeld ?_
                  rotate_left
                  · intro w hSw
                    obtain ⟨hSw0, hSw1⟩ := hSw
                    go_simp
                    first | done | with_reducible rfl
                  simp only [Act.put, List.setIfInBounds_toArray, List.set_cons_zero, List.set_cons_succ]
                  refine takeO (v := ?_) 18 rfl (by kernel_rfl) (by kernel_rfl) (by kernel_rfl) (by rfl) ?_ hHeld ?_
                  rotate_left
                  · intro w hSw
                    obtain ⟨hSw0, hSw1⟩ := hSw
                    go_simp
                    first | done | with_reducible rfl
                  simp only [Act.put, List.setIfInBounds_toArray, List.set_cons_zero, List.set_cons_succ]
                  refine takeO (v := ?_) 19 rfl (by kernel_rfl) (by kernel_rfl) (by kernel_rfl) (by rfl) ?_ hHeld ?_
                  rotate_left
                  · intro w hSw
                    obtain ⟨hSw0, hSw1⟩ := hSw
                    go_simp
                    first | done | with_reducible rfl
                  simp only [Act.put, List.setIfInBounds_toArray, List.set_cons_zero, List.set_cons_succ]
                  refine takeO (v := ?_) 20 rfl (by kernel_rfl) (by kernel_rfl) (by kernel_rfl) (by rfl) ?_ hHeld ?_
                  rotate_left
                  · intro w hSw
                    obtain ⟨hSw0, hSw1⟩ := hSw
                    go_simp
                    first | done | with_reducible rfl
                  simp only [Act.put, List.setIfInBounds_toArray, List.set_cons_zero, List.set_cons_succ]
                  refine takeO (v := ?_) 21 rfl (by kernel_rfl) (by kernel_rfl) (by kernel_rfl) (by rfl) ?_ hHeld ?_
                  rotate_left
                  · intro w hSw
                    obtain ⟨hSw0, hSw1⟩ := hSw
                    go_simp
                    first | done | with_reducible rfl
                  simp only [Act.put, List.setIfInBounds_toArray, List.set_cons_zero, List.set_cons_succ]
                  refine takeO (v := ?_) 22 rfl (by kernel_rfl) (by kernel_rfl) (by kernel_rfl) (by rfl) ?_ hHeld ?_
                  rotate_left
                  · intro w hSw
                    obtain ⟨hSw0, hSw1⟩ := hSw
                    go_simp
                    first | done | with_reducible rfl
                  simp only [Act.put, List.setIfInBounds_toArray, List.set_cons_zero, List.set_cons_succ]
                  refine takeO (v := ?_) 23 rfl (by kernel_rfl) (by kernel_rfl) (by kernel_rfl) (by rfl) ?_ hHeld ?_
                  rotate_left
                  · intro w hSw
                    obtain ⟨hSw0, hSw1⟩ := hSw
                    go_simp
                    first | done | with_reducible rfl
                  simp only [Act.put, List.setIfInBounds_toArray, List.set_cons_zero, List.set_cons_succ]
                  refine takeO (v := ?_) 24 rfl (by kernel_rfl) (by kernel_rfl) (by kernel_rfl) (by rfl) ?_ hHeld ?_
                  rotate_left
                  · intro w hSw
                    obtain ⟨hSw0, hSw1⟩ := hSw
                    go_simp
                    first | done | with_reducible rfl
                  simp only [Act.put, List.setIfInBounds_toArray, List.set_cons_zero, List.set_cons_succ]
                  refine takeO (v := ?_) 25 rfl (by kernel_rfl) (by kernel_rfl) (by kernel_rfl) (by rfl) ?_ hHeld ?_
                  rotate_left
                  · intro w hSw
                    obtain ⟨hSw0, hSw1⟩ := hSw
                    go_simp
                    first | done | with_reducible rfl
                  simp only [Act.put, List.setIfInBounds_toArray, List.set_cons_zero, List.set_cons_succ]
                  refine takeO (v := ?_) 26 rfl (by kernel_rfl) (by kernel_rfl) (by kernel_rfl) (by rfl) ?_ hHeld ?_
                  rotate_left
                  · intro w hSw
                    obtain ⟨hSw0, hSw1⟩ := hSw
                    go_simp
                    first | done | with_reducible rfl
                  simp only [Act.put, List.setIfInBounds_toArray, List.set_cons_zero, List.set_cons_succ]
                  refine takeO (v := ?_) 27 rfl (by kernel_rfl) (by kernel_rfl) (by kernel_rfl) (by rfl) ?_ hHeld ?_
                  rotate_left
                  · intro w hSw
                    obtain ⟨hSw0, hSw1⟩ := hSw
                    go_simp
                    first | done | with_reducible rfl
                  simp only [Act.put, List.setIfInBounds_toArray, List.set_cons_zero, List.set_cons_succ]
                  refine doneO (by kernel_rfl) ?_
                  clear hHeld hS0
                  go_wp2
                  go_roundg (n1 - (k + 1))
                  case rel => exact ⟨k + 1, by have := HK.out; omega, rfl, c1', HBK.out⟩
                  case measure => have := HK.out; omega
              · have v1 : decide ((k : Int) < (n1 : Int)) = false := decide_eq_false (by omega)
                have v2 : decide (k < n1) = false := decide_eq_false hkl
                clear r1 r2 r3 s1 s2 s3 hk hkl
                go_wp2
                go_roundg (M.length - (j + 1))
                case rel => exact ⟨j + 1, by have := HJ.out; omega, rfl, hbk⟩
                case measure => have := HJ.out; omega
          · have u4 : decide ((j : Int) < (M.length : Int)) = false := decide_eq_false (by omega)
            have u5 : decide (j < M.length) = false := decide_eq_false hl
            have hfin := HW.out.2.2.2.1.2.2.2
            rw [← HNr.out] at hfin
            have HB := Lib.hid (H4.out.2.trans (hbw.out.mono H4.out.2.size))
            clear hj hl hbw
            cases Ov with
            | false =>
              clear hfin
              go_wp2
              all_goals (go_ret; exact ⟨rfl, HB.out⟩)
            | true =>
              have hN0 : Nr ≠ 0 := fun e => by have := hfin e; cases this
              have u8 : decide (0 < (Nr : Int)) = true := decide_eq_true (by omega)
              have u9 : decide (0 < Nr) = true := decide_eq_true (by omega)
              clear hfin hN0
              go_wp2
              go_ret
              exact ⟨rfl, HB.out⟩
end
end Go.Proofs.YtjoipgekmnnlpaaGreatDoor
