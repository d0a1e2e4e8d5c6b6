/- Walks: chapter 22's law functions: SmtpPieces. -/
import Derived.Test.YtjoipgekmnnlpaaGreatDoorSmWh
import Derived.Test.YtjoipgekmnnlpaaGreatDoorSmHl
namespace Sm
open Go Lx
theorem pieces_law (most : Nat) (an : Nat → Int) (cs ds : List (List UInt8)) (h : cs.flatten = ds.flatten) (hc : ∀ c ∈ cs, c.length ≤ 7000) (hd : ∀ c ∈ ds, c.length ≤ 7000) :
    (wholeW most an 7000 ⟨begin0, [], []⟩ cs).out = (wholeW most an 7000 ⟨begin0, [], []⟩ ds).out ∧ (wholeW most an 7000 ⟨begin0, [], []⟩ cs).mails = (wholeW most an 7000 ⟨begin0, [], []⟩ ds).mails ∧
    (wholeW most an 7000 ⟨begin0, [], []⟩ cs).s.st.over = (wholeW most an 7000 ⟨begin0, [], []⟩ ds).s.st.over := by
  have hq0 : Quiet begin0 := ⟨rfl, fun e => absurd rfl e⟩
  obtain ⟨-, -, a3, a4, a5⟩ := whole_full most an 7000 cs ⟨begin0, [], []⟩ hq0 (fun r c hx => Nat.le_trans (pushW_count c r) (hc c hx))
  obtain ⟨-, -, b3, b4, b5⟩ := whole_full most an 7000 ds ⟨begin0, [], []⟩ hq0 (fun r c hx => Nat.le_trans (pushW_count c r) (hd c hx))
  rw [a3, a4, a5, b3, b4, b5, h]
  exact ⟨rfl, rfl, rfl⟩
theorem whole_cnt (most : Nat) (an : Nat → Int) (cs : List (List UInt8)) (N : Nat) (hz : cs.flatten.length ≤ N) (hc : ∀ c ∈ cs, c.length ≤ 7000) : (wholeW most an 7000 ⟨begin0, [], []⟩ cs).mails.length ≤ N := by
  have hq0 : Quiet begin0 := ⟨rfl, fun e => absurd rfl e⟩
  obtain ⟨-, -, a3, a4, a5⟩ := whole_full most an 7000 cs ⟨begin0, [], []⟩ hq0 (fun r c hx => Nat.le_trans (pushW_count c r) (hc c hx))
  rw [a5]
  have h1 : ∀ (L : List (List UInt8)) (st : Ses) (n : Nat), (fullW most an st n L).2.2.length ≤ L.length := by
    intro L
    induction L with
    | nil => intro st n; exact Nat.le_refl _
    | cons l r ih =>
      intro st n
      rw [fullW_cons]
      split
      · exact Nat.zero_le _
      · split
        · simp only [List.length_cons]; have := ih (answerW (stepW most st l).1 (an n)).1 (n + 1); omega
        · simp only [List.length_cons]; have := ih (stepW most st l).1 n; omega
  have h2 := h1 (pushW ([] : List UInt8) cs.flatten).1 new0 0
  have h3 := pushW_count cs.flatten []
  show ([] ++ (fullW most an new0 0 (pushW [] cs.flatten).1).2.2).length ≤ N
  rw [List.nil_append]
  omega
end Sm
namespace Go.Proofs.YtjoipgekmnnlpaaGreatDoor
open Go.RowKit Go.Shelf Go.Lib Pk Sm

section
variable {G B : Nat} {w w' V : World} {most : Nat}
theorem whole_rcp (hm : most ≤ 65536) (an : Nat → Int) : ∀ (cs : List (List UInt8)) (a : Acc), Gd most a.s → (∀ m ∈ a.mails, m.rcp.length ≤ 1000000) → ∀ m ∈ (wholeW most an 7000 a cs).mails, m.rcp.length ≤ 1000000
  | [], a, _, h => h
  | c :: cs, a, hg, h => by
    have hd : ∀ (k : Nat) (b : Acc), Gd most b.s → Gd most (drainW most an k b).s := by
      intro k
      induction k with
      | zero => intro b hb; exact hb
      | succ k ih =>
        intro b hb
        by_cases hw : b.s.st.waits = true
        · rw [drain_rnd _ _ _ _ hw]; exact ih _ (rnd_gd hm an hb (Nat.le_refl _)).1
        · rw [drain_end _ _ _ _ (.inr (by simpa using hw))]; exact hb
    exact whole_rcp hm an cs (chunkW most an 7000 a c) (hd _ _ (hg.feed c)) (drain_rcp hm an 7000 _ (hg.feed c) h)
def catB (ns : List ByteArray) (i : Nat) : ByteArray := bt (lsB (ns.take i)).flatten
theorem catB_succ (ns : List ByteArray) (i : Nat) (h : i < ns.length) : catB ns (i + 1) = catB ns i ++ ns[i] := by
  unfold catB lsB
  rw [List.take_succ_eq_append_getElem h, List.map_append, List.flatten_append]
  conv => rhs; rhs; rw [← bt_back ns[i]]
  rw [bt_app]
  simp
theorem catB_size (ns : List ByteArray) (i : Nat) : (catB ns i).size = sumZ (ns.take i) := by
  have h : ∀ l : List ByteArray, (lsB l).flatten.length = sumZ l := by
    intro l
    unfold lsB sumZ
    rw [List.length_flatten, List.map_map]
    rfl
  rw [← h]
  exact (bt_ex _).elim fun A e => by unfold catB; rw [← e.1]; exact e.2.2
set_option maxHeartbeats 4000000 in
set_option maxRecDepth 100000 in
theorem smtpPieces_any (m0 cut : Int) (lv av : Value) (ns : List ByteArray) (ans : List Int) (hC : Ctx G w) (hL : StrIn w lv ns) (hA : IntIn .i64 w.heap.size w av ans) : Calls Tryz.prog 4 #[.int .i64 m0, lv, .int .i64 cut, av] w fun e w' => e = .returned (.bool true) ∧ Below w.heap.size w w' := by
  have HC := Lib.hid (Ctx.self hC)
  have HS := Lib.hid (small_any w hC)
  have HA := Lib.hid hA
  have HL := Lib.hid hL
  obtain ⟨⟨p, c, rfl, hc, hp⟩, -⟩ := hL
  have HP := Lib.hid hp
  clear hC hA hp
  go_enter Tryz.func4, Tryz.ntmps4
  go_wp2_with fail
  refine HS.out.mono ?_
  rintro e w1 ⟨rfl, hb1⟩
  have HF := Lib.hid (few_any _ ns (HL.out.below hb1))
  have HB1 := Lib.hid hb1
  clear hb1
  go_wp2_with fail
  refine HF.out.mono ?_
  rintro e w2 ⟨Bf, rfl, rfl, hBf⟩
  cases Bf with
  | false =>
    clear hBf
    go_wp2
    go_ret
    exact ⟨rfl, HB1.out⟩
  | true =>
    obtain ⟨hn60, hz6⟩ := hBf rfl
    have HZ := Lib.hid (And.intro hn60 hz6)
    clear hBf hn60 hz6
    go_wp2_with fail
    go_loopg [10, 11] ns.length (fun g ov iv wr => ∃ i : Nat, i + g = ns.length ∧ iv = .int .i64 i ∧ ov = .string (catB ns i) ∧ wr = w2)
    case atStart => exact ⟨0, by omega, rfl, rfl, rfl⟩
    case round =>
      obtain ⟨i, hi, rfl, rfl, rfl⟩ := hrel
      by_cases hl : i < ns.length
      · have u1 : decide ((i : Int) < (ns.length : Int)) = true := decide_eq_true (by omega)
        have u3 : (i : Int) < (ns.length : Int) := by omega
        have u6 : IntKind.i64.wrap ((i : Int) + 1) = (i : Int) + 1 := w64 rfl (by omega) (by have := HZ.out; omega)
        rcases HP.out with hp | ⟨g, o, rfl, hcell⟩
        · rw [hp] at hl; cases hl
        · have hx := cell_later HB1.out (hcell i hl)
          obtain ⟨X, hX⟩ : ∃ X, X = ns[i] := ⟨_, rfl⟩
          rw [← hX] at hx
          obtain ⟨O, hO⟩ : ∃ O, O = catB ns i := ⟨_, rfl⟩
          have hzi := sumZ_take ns i hl
          have hza := sumZ_all ns (i + 1)
          have hcs := catB_succ ns i hl
          rw [← hX] at hzi hcs
          rw [← hO] at hcs ⊢
          have hOs : O.size = sumZ (ns.take i) := by rw [hO, catB_size]
          have u8 : ¬ 9223372036854775807 < O.size + X.size := by have := HZ.out; omega
          have HO := Lib.hid (And.intro hcs (And.intro hi hl))
          clear hcs hX hO hzi hza hOs hcell hi hl
          go_wp2
          go_roundg (ns.length - (i + 1))
          case rel => exact ⟨i + 1, by have := HO.out; omega, rfl, by rw [HO.out.1], rfl⟩
          case measure => have := HO.out; omega
      · have u1 : decide ((i : Int) < (ns.length : Int)) = false := decide_eq_false (by omega)
        have u2 : decide (i < ns.length) = false := decide_eq_false hl
        have hil : i = ns.length := by omega
        subst hil
        clear hi hl
        obtain ⟨ALL, hALL⟩ : ∃ ALL, ALL = catB ns ns.length := ⟨_, rfl⟩
        have hAs : ALL.size = sumZ ns := by rw [hALL, catB_size, List.take_length]
        have hAd : ALL = bt (lsB ns).flatten := by rw [hALL]; unfold catB; rw [List.take_length]
        rw [← hALL]
        have HD := Lib.hid (And.intro hAs hAd)
        clear hAs hAd hALL
        obtain ⟨K, hK⟩ : ∃ K : Nat, min (max cut 0) (ALL.size : Int) = (K : Int) := ⟨(min (max cut 0) (ALL.size : Int)).toNat, by omega⟩
        have hk0 : (0 : Int) ≤ (K : Int) := by omega
        have hk1 : (K : Int) ≤ (ALL.size : Int) := by omega
        have hkn : K ≤ ALL.size := by omega
        obtain ⟨P1, hP1⟩ : ∃ P1, ALL.extract 0 K = P1 := ⟨_, rfl⟩
        obtain ⟨P2, hP2⟩ : ∃ P2, ALL.extract K ALL.size = P2 := ⟨_, rfl⟩
        have d1 : P1.data.toList = ALL.data.toList.take K := by rw [← hP1, ext_to]
        have d2 : P2.data.toList = ALL.data.toList.drop K := by rw [← hP2, ext_from]
        have hfl : (lsB ns).flatten = (lsB [P1, ⟨#[]⟩, P2]).flatten := by
          show _ = P1.data.toList ++ ([] ++ (P2.data.toList ++ []))
          rw [d1, d2, List.nil_append, List.append_nil, List.take_append_drop, HD.out.2]
          exact (bt_ex _).elim fun A e => by rw [← e.1]; exact e.2.1.symm
        have hz1 : P1.size = K := by rw [← size_len, d1, List.length_take, size_len]; omega
        have hz2 : P2.size = ALL.size - K := by rw [← size_len, d2, List.length_drop, size_len]
        have hall := HD.out.1
        have hns : ∀ x ∈ ns, x.size ≤ 6000 := fun x hx => by
          obtain ⟨j, hj, rfl⟩ := List.getElem_of_mem hx
          have h1 := sumZ_take ns j hj
          have h2 := sumZ_all ns (j + 1)
          have := HZ.out.2
          omega
        have hlw := pieces_law (clampM m0) (anL ans) (lsB ns) (lsB [P1, ⟨#[]⟩, P2]) hfl
          (fun c hc => by obtain ⟨x, hx, rfl⟩ := List.mem_map.1 hc; have := hns x hx; have e : x.data.toList.length = x.size := rfl; omega)
          (fun c hc => by
            obtain ⟨x, hx, rfl⟩ := List.mem_map.1 hc
            have e : x.data.toList.length = x.size := rfl
            have := HZ.out.2
            simp only [List.mem_cons, List.not_mem_nil, or_false] at hx
            rcases hx with rfl | rfl | rfl
            · omega
            · exact Nat.zero_le _
            · omega)
        have hct := whole_cnt (clampM m0) (anL ans) (lsB ns) 6000 (by
            have h1 := HD.out.1; rw [HD.out.2] at h1
            have h2 : (bt (lsB ns).flatten).size = (lsB ns).flatten.length := (bt_ex _).elim fun A e => by rw [← e.1]; exact e.2.2
            have := HZ.out.2; omega)
          (fun c hc => by obtain ⟨x, hx, rfl⟩ := List.mem_map.1 hc; have := hns x hx; have e : x.data.toList.length = x.size := rfl; omega)
        have hrc := whole_rcp (clampM_le m0).2 (anL ans) (lsB ns) ⟨begin0, [], []⟩ (gd0 _) (fun m e => by cases e)
        have hW1 := whole_any m0 _ av ns ans (HC.out.below HB1.out) (HL.out.below HB1.out) HZ.out.1 HZ.out.2 (HA.out.keeps (fun g hg => HB1.out.block g hg) HB1.out.size)
        obtain ⟨F1, hF1⟩ : ∃ F1, F1 = wholeW (clampM m0) (anL ans) 7000 ⟨begin0, [], []⟩ (lsB ns) := ⟨_, rfl⟩
        rw [← hF1] at hlw hct hrc hW1
        obtain ⟨l1, l2, l3⟩ := hlw
        obtain ⟨U, hU⟩ : ∃ U, U = bt F1.out := ⟨_, rfl⟩
        obtain ⟨M, hM⟩ : ∃ M, M = F1.mails := ⟨_, rfl⟩
        obtain ⟨Ov, hOv⟩ : ∃ Ov, Ov = F1.s.st.over := ⟨_, rfl⟩
        unfold WhoIs at hW1
        rw [← hU, ← hM, ← hOv] at hW1
        rw [← hM] at hct hrc
        have HN := Lib.hid (And.intro (show M.length ≤ 1000000 from by omega) hrc)
        have HK := Lib.hid (And.intro hkn (And.intro hz1 (And.intro hz2 (And.intro hall (And.intro l1 (And.intro l2 (And.intro l3 (And.intro hU (And.intro hM hOv)))))))))
        have HW1 := Lib.hid hW1
        clear hkn hz1 hz2 hall l1 l2 l3 hU hM hOv hW1 hct hrc hF1 hns hfl d1 d2
        go_wp2_with fail
        refine HW1.out.mono ?_
        rintro e w3 ⟨mv1, rfl, hm1, hb3⟩
        obtain ⟨p1, c1, rfl, hc1⟩ := hm1.form
        have HM1 := Lib.hid (And.intro hm1 hb3)
        clear hm1 hb3
        go_wp2_with fail
        refine wp_region_heldO (fun _ => True) 17 (by kernel_rfl) rfl trivial (fun hHeld => ?_)
        refine takeO (v := ?_) 0 rfl (by kernel_rfl) (by kernel_rfl) (by kernel_rfl) (by rfl) ?_ hHeld ?_
        rotate_left
        · intro w hSw
          go_simp
          first | done | with_reducible rfl
        simp only [Act.put, List.setIfInBounds_toArray, List.set_cons_zero, List.set_cons_succ]
        refine takeO (v := ?_) 1 rfl (by kernel_rfl) (by kernel_rfl) (by kernel_rfl) (by rfl) ?_ hHeld ?_
        rotate_left
        · intro w hSw
          go_simp
          first | done | with_reducible rfl
        simp only [Act.put, List.setIfInBounds_toArray, List.set_cons_zero, List.set_cons_succ]
        refine takeO (v := ?_) 2 rfl (by kernel_rfl) (by kernel_rfl) (by kernel_rfl) (by rfl) ?_ hHeld ?_
        rotate_left
        · intro w hSw
          go_simp
          first | done | with_reducible rfl
        simp only [Act.put, List.setIfInBounds_toArray, List.set_cons_zero, List.set_cons_succ]
        refine takeO (v := ?_) 3 rfl (by kernel_rfl) (by kernel_rfl) (by kernel_rfl) (by rfl) ?_ hHeld ?_
        rotate_left
        · intro w hSw
          go_simp
          first | done | with_reducible rfl
        simp only [Act.put, List.setIfInBounds_toArray, List.set_cons_zero, List.set_cons_succ]
        refine takeO (v := ?_) 4 rfl (by kernel_rfl) (by kernel_rfl) (by kernel_rfl) (by rfl) ?_ hHeld ?_
        rotate_left
        · intro w hSw
          go_simp
          first | done | with_reducible rfl
        simp only [Act.put, List.setIfInBounds_toArray, List.set_cons_zero, List.set_cons_succ]
        refine takeO (v := ?_) 5 rfl (by kernel_rfl) (by kernel_rfl) (by kernel_rfl) (by rfl) ?_ hHeld ?_
        rotate_left
        · intro w hSw
          go_simp
          first | done | with_reducible rfl
        simp only [Act.put, List.setIfInBounds_toArray, List.set_cons_zero, List.set_cons_succ]
        refine takeO (v := ?_) 6 rfl (by kernel_rfl) (by kernel_rfl) (by kernel_rfl) (by rfl) ?_ hHeld ?_
        rotate_left
        · intro w hSw
          go_simp
          first | done | with_reducible rfl
        simp only [Act.put, List.setIfInBounds_toArray, List.set_cons_zero, List.set_cons_succ]
        refine takeO (v := ?_) 8 rfl (by kernel_rfl) (by kernel_rfl) (by kernel_rfl) (by rfl) ?_ hHeld ?_
        rotate_left
        · intro w hSw
          go_simp
          first | done | with_reducible rfl
        simp only [Act.put, List.setIfInBounds_toArray, List.set_cons_zero, List.set_cons_succ]
        have hcs : (w3.drew.alloc (.cells #[.string P1, .string ⟨#[]⟩, .string P2] 9)).heap[w3.heap.size]? = some (.cells #[.string P1, .string ⟨#[]⟩, .string P2] 9 (0, 0)) := heap_alloc_new w3.drew _
        have hb4 : Below w3.heap.size w3 (w3.drew.alloc (.cells #[.string P1, .string ⟨#[]⟩, .string P2] 9)) := (Below.refl w3.heap.size w3).drew.alloc (Nat.le_refl _) _
        have hbw : Below w.heap.size w (w3.drew.alloc (.cells #[.string P1, .string ⟨#[]⟩, .string P2] 9)) := HB1.out.trans ((HM1.out.2.mono HB1.out.size).trans (hb4.mono (Nat.le_trans HB1.out.size HM1.out.2.size)))
        have hW2 := whole_any m0 (.slice (some ⟨w3.heap.size, 0, none⟩) 3 3) av [P1, ⟨#[]⟩, P2] ans (HC.out.below hbw)
          ⟨⟨_, _, rfl, Nat.le_refl _, .inr ⟨_, _, rfl, fun j hj => by
            rcases j with _ | _ | _ | j
            · exact (Lib.cell_of_heap hcs _).trans rfl
            · exact (Lib.cell_of_heap hcs _).trans rfl
            · exact (Lib.cell_of_heap hcs _).trans rfl
            · simp at hj; omega⟩⟩, fun x hx => by
            have h1 := HK.out.2.1; have h2 := HK.out.2.2.1; have h3 := HK.out.2.2.2.1; have h4 := HZ.out.2; have h5 := HK.out.1
            simp only [List.mem_cons, List.not_mem_nil, or_false] at hx
            rcases hx with rfl | rfl | rfl
            · omega
            · exact Nat.zero_le _
            · omega⟩ (by show 3 ≤ 60; decide)
          (by
            have h1 := HK.out.2.1; have h2 := HK.out.2.2.1; have h3 := HK.out.2.2.2.1; have h4 := HZ.out.2; have h5 := HK.out.1
            show P1.size + (0 + (P2.size + 0)) ≤ 6000
            omega)
          (HA.out.keeps (fun g hg => hbw.block g hg) hbw.size)
        unfold WhoIs at hW2
        rw [← HK.out.2.2.2.2.1, ← HK.out.2.2.2.2.2.1, ← HK.out.2.2.2.2.2.2.1, ← HK.out.2.2.2.2.2.2.2.1, ← HK.out.2.2.2.2.2.2.2.2.1, ← HK.out.2.2.2.2.2.2.2.2.2] at hW2
        have HW2 := Lib.hid hW2
        have HB4 := Lib.hid (And.intro hb4 hbw)
        clear hcs hb4 hbw hW2
        refine stepO (w' := w3.drew.alloc (.cells #[.string P1, .string ⟨#[]⟩, .string P2] 9)) (v := .slice (some ⟨w3.heap.size, 0, none⟩) 3 3) 7 rfl (by kernel_rfl) (by rfl) (by go_simp) trivial ?_
        simp only [Act.put, List.setIfInBounds_toArray, List.set_cons_zero, List.set_cons_succ]
        refine callO (f := 23) (args := #[.int .i64 m0, .slice (some ⟨w3.heap.size, 0, none⟩) 3 3, av]) 9 rfl (by kernel_rfl) (by rfl) (by go_simp) (HW2.out.mono ?_)
        rintro e w5 ⟨mv2, rfl, hm2, hb5⟩
        obtain ⟨p2, c2, rfl, hc2⟩ := hm2.form
        refine ⟨_, rfl, trivial, ?_⟩
        have HM2 := Lib.hid (And.intro hm2 hb5)
        clear hm2 hb5
        simp only [Act.put, List.setIfInBounds_toArray, List.set_cons_zero, List.set_cons_succ]
        refine stepO (w' := w5) (v := ?_) 10 rfl (by kernel_rfl) (by rfl) ?_ trivial ?_
        rotate_left
        · go_simp
          first | done | with_reducible rfl
        simp only [Act.put, List.setIfInBounds_toArray, List.set_cons_zero, List.set_cons_succ]
        refine takeO (v := ?_) 11 rfl (by kernel_rfl) (by kernel_rfl) (by kernel_rfl) (by rfl) ?_ hHeld ?_
        rotate_left
        · intro w hSw
          go_simp
          first | done | with_reducible rfl
        simp only [Act.put, List.setIfInBounds_toArray, List.set_cons_zero, List.set_cons_succ]
        refine takeO (v := ?_) 12 rfl (by kernel_rfl) (by kernel_rfl) (by kernel_rfl) (by rfl) ?_ hHeld ?_
        rotate_left
        · intro w hSw
          go_simp
          first | done | with_reducible rfl
        simp only [Act.put, List.setIfInBounds_toArray, List.set_cons_zero, List.set_cons_succ]
        refine takeO (v := ?_) 13 rfl (by kernel_rfl) (by kernel_rfl) (by kernel_rfl) (by rfl) ?_ hHeld ?_
        rotate_left
        · intro w hSw
          go_simp
          first | done | with_reducible rfl
        simp only [Act.put, List.setIfInBounds_toArray, List.set_cons_zero, List.set_cons_succ]
        refine takeO (v := ?_) 14 rfl (by kernel_rfl) (by kernel_rfl) (by kernel_rfl) (by rfl) ?_ hHeld ?_
        rotate_left
        · intro w hSw
          go_simp
          first | done | with_reducible rfl
        simp only [Act.put, List.setIfInBounds_toArray, List.set_cons_zero, List.set_cons_succ]
        refine takeO (v := ?_) 15 rfl (by kernel_rfl) (by kernel_rfl) (by kernel_rfl) (by rfl) ?_ hHeld ?_
        rotate_left
        · intro w hSw
          go_simp
          first | done | with_reducible rfl
        simp only [Act.put, List.setIfInBounds_toArray, List.set_cons_zero, List.set_cons_succ]
        refine takeO (v := ?_) 16 rfl (by kernel_rfl) (by kernel_rfl) (by kernel_rfl) (by rfl) ?_ hHeld ?_
        rotate_left
        · intro w hSw
          go_simp
          first | done | with_reducible rfl
        simp only [Act.put, List.setIfInBounds_toArray, List.set_cons_zero, List.set_cons_succ]
        refine doneO (by kernel_rfl) ?_
        obtain ⟨wy, hwy⟩ : ∃ wy, wy = w5 := ⟨_, rfl⟩
        subst hwy
        have HM := Lib.hid (And.intro (HM1.out.1.below (HB4.out.1.trans (HM2.out.2.mono HB4.out.1.size))) (And.intro HM2.out.1 (HB4.out.2.trans (HM2.out.2.mono HB4.out.2.size))))
        go_wp2_with fail
        go_loopg [19] M.length (fun g iv wr => ∃ i : Nat, i + g = M.length ∧ iv = .int .i64 i ∧ Hid (Below wy.heap.size wy wr))
        case atStart => exact ⟨0, by omega, rfl, Below.refl _ _⟩
        case round =>
          obtain ⟨i, hi, rfl, hbw⟩ := hrel
          by_cases hl : i < M.length
          · have u1 : decide ((i : Int) < (M.length : Int)) = true := decide_eq_true (by omega)
            have u3 : (i : Int) < (M.length : Int) := by omega
            have u6 : IntKind.i64.wrap ((i : Int) + 1) = (i : Int) + 1 := w64 rfl (by omega) (by have := HN.out.1; omega)
            obtain ⟨g1, o1, F1, q1, n1, d1, Y1, rfl, E1, -, -, k0, k1, k2⟩ := HM.out.1.at i hl
            obtain ⟨g2, o2, F2, q2, n2, d2, Y2, rfl, E2, -, -, k3, k4, k5⟩ := HM.out.2.1.at i hl
            have hbd : Below wy.heap.size wy wr.drew := hbw.out.drew
            replace E1 := E1.keepsB (Z := fun _ => True) (fun g _ hgl => hbd.block g hgl) hbd.size (fun _ _ _ => trivial)
            replace E2 := E2.keepsB (Z := fun _ => True) (fun g _ hgl => hbd.block g hgl) hbd.size (fun _ _ _ => trivial)
            have hsm : Calls Tryz.prog 18 #[.agg #[.string F1, .slice q1 n1 d1, .string Y1], .agg #[.string F2, .slice q2 n2 d2, .string Y2]] wr.drew fun e w' => e = .returned (.bool true) ∧ Below wr.drew.heap.size wr.drew w' := same_any ⟨F1, q1, n1, d1, Y1⟩ ⟨F2, q2, n2, d2, Y2⟩ M[i] E1 E2 (HN.out.2 _ (List.getElem_mem hl))
            replace k0 := cell_later hbd k0
            replace k1 := cell_later hbd k1
            replace k2 := cell_later hbd k2
            replace k3 := cell_later hbd k3
            replace k4 := cell_later hbd k4
            replace k5 := cell_later hbd k5
            have HSm := Lib.hid (And.intro hsm (And.intro hi (And.intro hl hbd)))
            have hS0 : Hid ((wr.drew.cell? ⟨g1, o1 + i * 3, none⟩ = some (.string F1) ∧ wr.drew.cell? ⟨g1, o1 + i * 3 + 1, none⟩ = some (.slice q1 n1 d1) ∧ wr.drew.cell? ⟨g1, o1 + i * 3 + 2, none⟩ = some (.string Y1)) ∧ wr.drew.cell? ⟨g2, o2 + i * 3, none⟩ = some (.string F2) ∧ wr.drew.cell? ⟨g2, o2 + i * 3 + 1, none⟩ = some (.slice q2 n2 d2) ∧ wr.drew.cell? ⟨g2, o2 + i * 3 + 2, none⟩ = some (.string Y2)) := ⟨⟨k0, k1, k2⟩, k3, k4, k5⟩
            clear hsm E1 E2 hbd hi hl k0 k1 k2 k3 k4 k5
            go_wp2_with fail
            refine wp_region_heldO (fun V => (V.cell? ⟨g1, o1 + i * 3, none⟩ = some (.string F1) ∧ V.cell? ⟨g1, o1 + i * 3 + 1, none⟩ = some (.slice q1 n1 d1) ∧ V.cell? ⟨g1, o1 + i * 3 + 2, none⟩ = some (.string Y1)) ∧ V.cell? ⟨g2, o2 + i * 3, none⟩ = some (.string F2) ∧ V.cell? ⟨g2, o2 + i * 3 + 1, none⟩ = some (.slice q2 n2 d2) ∧ V.cell? ⟨g2, o2 + i * 3 + 2, none⟩ = some (.string Y2)) 10 (by kernel_rfl) rfl hS0.out (fun hHeld => ?_)
            refine takeO (v := ?_) 0 rfl (by kernel_rfl) (by kernel_rfl) (by kernel_rfl) (by rfl) ?_ hHeld ?_
            rotate_left
            · intro w hSw
              obtain ⟨⟨hSw0, hSw1, hSw2⟩, hSw3, hSw4, hSw5⟩ := hSw
              go_simp
              first | done | with_reducible rfl
            simp only [Act.put, List.setIfInBounds_toArray, List.set_cons_zero, List.set_cons_succ]
            refine takeO (v := ?_) 1 rfl (by kernel_rfl) (by kernel_rfl) (by kernel_rfl) (by rfl) ?_ hHeld ?_
            rotate_left
            · intro w hSw
              obtain ⟨⟨hSw0, hSw1, hSw2⟩, hSw3, hSw4, hSw5⟩ := hSw
              go_simp
              first | done | with_reducible rfl
            simp only [Act.put, List.setIfInBounds_toArray, List.set_cons_zero, List.set_cons_succ]
            refine takeO (v := ?_) 2 rfl (by kernel_rfl) (by kernel_rfl) (by kernel_rfl) (by rfl) ?_ hHeld ?_
            rotate_left
            · intro w hSw
              obtain ⟨⟨hSw0, hSw1, hSw2⟩, hSw3, hSw4, hSw5⟩ := hSw
              go_simp
              first | done | with_reducible rfl
            simp only [Act.put, List.setIfInBounds_toArray, List.set_cons_zero, List.set_cons_succ]
            refine takeO (v := ?_) 3 rfl (by kernel_rfl) (by kernel_rfl) (by kernel_rfl) (by rfl) ?_ hHeld ?_
            rotate_left
            · intro w hSw
              obtain ⟨⟨hSw0, hSw1, hSw2⟩, hSw3, hSw4, hSw5⟩ := hSw
              go_simp
              first | done | with_reducible rfl
            simp only [Act.put, List.setIfInBounds_toArray, List.set_cons_zero, List.set_cons_succ]
            refine takeO (v := ?_) 4 rfl (by kernel_rfl) (by kernel_rfl) (by kernel_rfl) (by rfl) ?_ hHeld ?_
            rotate_left
            · intro w hSw
              obtain ⟨⟨hSw0, hSw1, hSw2⟩, hSw3, hSw4, hSw5⟩ := hSw
              go_simp
              first | done | with_reducible rfl
            simp only [Act.put, List.setIfInBounds_toArray, List.set_cons_zero, List.set_cons_succ]
            refine takeO (v := ?_) 5 rfl (by kernel_rfl) (by kernel_rfl) (by kernel_rfl) (by rfl) ?_ hHeld ?_
            rotate_left
            · intro w hSw
              obtain ⟨⟨hSw0, hSw1, hSw2⟩, hSw3, hSw4, hSw5⟩ := hSw
              go_simp
              first | done | with_reducible rfl
            simp only [Act.put, List.setIfInBounds_toArray, List.set_cons_zero, List.set_cons_succ]
            refine takeO (v := ?_) 6 rfl (by kernel_rfl) (by kernel_rfl) (by kernel_rfl) (by rfl) ?_ hHeld ?_
            rotate_left
            · intro w hSw
              obtain ⟨⟨hSw0, hSw1, hSw2⟩, hSw3, hSw4, hSw5⟩ := hSw
              go_simp
              first | done | with_reducible rfl
            simp only [Act.put, List.setIfInBounds_toArray, List.set_cons_zero, List.set_cons_succ]
            refine takeO (v := ?_) 7 rfl (by kernel_rfl) (by kernel_rfl) (by kernel_rfl) (by rfl) ?_ hHeld ?_
            rotate_left
            · intro w hSw
              obtain ⟨⟨hSw0, hSw1, hSw2⟩, hSw3, hSw4, hSw5⟩ := hSw
              go_simp
              first | done | with_reducible rfl
            simp only [Act.put, List.setIfInBounds_toArray, List.set_cons_zero, List.set_cons_succ]
            refine callO (f := 18) (args := #[.agg #[.string F1, .slice q1 n1 d1, .string Y1], .agg #[.string F2, .slice q2 n2 d2, .string Y2]]) 8 rfl (by kernel_rfl) (by rfl) (by go_simp) (HSm.out.1.mono ?_)
            rintro e w11 ⟨rfl, hbs⟩
            have hS9 : (w11.cell? ⟨g1, o1 + i * 3, none⟩ = some (.string F1) ∧ w11.cell? ⟨g1, o1 + i * 3 + 1, none⟩ = some (.slice q1 n1 d1) ∧ w11.cell? ⟨g1, o1 + i * 3 + 2, none⟩ = some (.string Y1)) ∧ w11.cell? ⟨g2, o2 + i * 3, none⟩ = some (.string F2) ∧ w11.cell? ⟨g2, o2 + i * 3 + 1, none⟩ = some (.slice q2 n2 d2) ∧ w11.cell? ⟨g2, o2 + i * 3 + 2, none⟩ = some (.string Y2) := by
              obtain ⟨⟨k0, k1, k2⟩, k3, k4, k5⟩ := hHeld
              exact ⟨⟨cell_later hbs k0, cell_later hbs k1, cell_later hbs k2⟩, cell_later hbs k3, cell_later hbs k4, cell_later hbs k5⟩
            have HBs := Lib.hid (HSm.out.2.2.2.trans (hbs.mono HSm.out.2.2.2.size))
            clear hbs hHeld
            refine ⟨_, rfl, hS9, ?_⟩
            simp only [Act.put, List.setIfInBounds_toArray, List.set_cons_zero, List.set_cons_succ]
            refine stepO (w' := w11) (v := .bool false) 9 rfl (by kernel_rfl) (by rfl) (by go_simp) hS9 ?_
            simp only [Act.put, List.setIfInBounds_toArray, List.set_cons_zero, List.set_cons_succ]
            refine doneO (by kernel_rfl) ?_
            clear hS9 hS0
            go_wp2
            go_roundg (M.length - (i + 1))
            case rel => exact ⟨i + 1, by have := HSm.out.2.2.1; omega, rfl, HBs.out⟩
            case measure => have := HSm.out; omega
          · have u1 : decide ((i : Int) < (M.length : Int)) = false := decide_eq_false (by omega)
            have u2 : decide (i < M.length) = false := decide_eq_false hl
            clear hi hl
            go_wp2
            go_ret
            exact ⟨rfl, HM.out.2.2.trans (hbw.out.mono HM.out.2.2.size)⟩
end
end Go.Proofs.YtjoipgekmnnlpaaGreatDoor
