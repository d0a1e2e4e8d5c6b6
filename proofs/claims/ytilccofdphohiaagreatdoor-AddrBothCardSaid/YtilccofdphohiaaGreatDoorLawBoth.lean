/- Walks: chapter 11's laws: AddrBoth. -/
import Derived.Test.YtilccofdphohiaaGreatDoorLawOpen
namespace Go.Proofs.YtilccofdphohiaaGreatDoor
open Go.RowKit Pk Ad Tk Fo Su

theorem ownForm {w : World} {B : Nat} {e : TypeId} {v : Value} {xs : List AdB} (h : ownsG adLay w B e v xs) : (v = .slice none 0 0 ∧ xs = []) ∨ ∃ g c, v = .slice (some ⟨g, 0, none⟩) xs.length c ∧ ∀ j u, (xs.flatMap adLay.enc)[j]? = some u → w.cell? ((⟨g, 0, none⟩ : Addr).add j) = some u := by
  rcases h.2 with ⟨h1, h2⟩ | ⟨g, cap, cur, h1, h2, h3, h4, h5, h6, h7⟩
  · exact .inl ⟨h1, List.eq_nil_of_length_eq_zero h2⟩
  · exact .inr ⟨g, cap, h1, fun j u hu => World.ownsRow.cells h (g := g) (by rw [h1]; rfl) j u hu⟩
theorem AdSees.nilS (w : World) (p : Option Addr) (c : Nat) : AdSees w (.slice p 0 c) [] := ⟨p, c, rfl, Nat.zero_le _, .inl rfl⟩
theorem own_shapeG {w : World} {B : Nat} {e : TypeId} {v : Value} {xs : List AdB} (h : ownsG adLay w B e v xs) : ∃ p c, v = .slice p xs.length c ∧ xs.length ≤ c := by
  rcases h.2 with ⟨h1, h2⟩ | ⟨g, cap, cur, h1, h2, h3, h4, h5, h6, h7⟩
  · exact ⟨none, 0, by rw [h1, h2], by omega⟩
  · exact ⟨_, cap, h1, h4⟩
theorem owns_empty (w : World) (B : Nat) (e : TypeId) (h : B ≤ w.heap.size) : ownsG adLay (w.alloc (.cells #[] e)) B e (.slice (some ⟨w.heap.size, 0, none⟩) 0 0) [] :=
  ⟨rfl, .inr ⟨w.heap.size, 0, #[], rfl, h, heap_alloc_new w _, Nat.le_refl _, Nat.zero_le _, rfl, rfl⟩⟩
theorem wpList_unguard {P : Program} {ops : Array Oper} {rest : List Oper} {o : Oper} {a : Act} {w : World} {Q : Exit → Act → World → Prop} (hw : Region.wanted o (yielded ops a.tmps) = true) (h : wpList P ops Q ({ o with guard := none } :: rest) a w) : wpList P ops Q (o :: rest) a w := by
  unfold wpList at h ⊢
  rw [if_pos hw]
  rw [if_pos (by simp [Region.wanted])] at h
  exact h
def CellsA (w : World) (g : Nat) (xs : List AdB) : Prop := ∀ j u, (xs.flatMap adLay.enc)[j]? = some u → w.cell? ((⟨g, 0, none⟩ : Addr).add j) = some u
theorem CellsA.later {w w' : World} {g : Nat} {xs : List AdB} (h : CellsA w g xs) (hb : Below w.heap.size w w') : CellsA w' g xs := fun j u hu => by
  have := h j u hu
  rw [Addr.add_lit] at this ⊢
  exact laterW hb this
set_option maxHeartbeats 4000000 in
set_option maxRecDepth 100000 in
theorem both_of (s t : ByteArray) (w : World) (h : Ra w) : Calls Tryz.prog 6 #[.string s, .string t] w (Truth w) := by
  have HS := Lib.hid (small_any w h)
  clear h
  have tb := Below.refl w.heap.size w
  by_cases hs : s.size ≤ 500
  · have q1 : decide ((500 : Int) < (s.size : Int)) = false := decide_eq_false (by omega)
    have q1' : decide ((s.size : Int) > 500) = false := decide_eq_false (by omega)
    by_cases ht : t.size ≤ 500
    · have q2 : decide ((500 : Int) < (t.size : Int)) = false := decide_eq_false (by omega)
      have q2' : decide ((t.size : Int) > 500) = false := decide_eq_false (by omega)
      have hO := fun W => open_any s W (by omega)
      cases hop : openE false (sc s.data.toList) with
      | true =>
        rw [hop] at hO
        have HO := Lib.hid hO
        clear hO hop
        go_enter Tryz.func6, Tryz.ntmps6
        go_wp2_with (first
          | (go_at_call 10; (with_reducible refine HS.out.mono ?_); rintro e w1 ⟨rfl, hb1⟩; have tb := tb.trans hb1)
          | (go_at_call 24; (with_reducible refine (HO.out _).mono ?_); rintro e w2 ⟨rfl, hb2⟩; have tb := tb.trans (hb2.mono tb.size)))
        go_ret
        exact ⟨rfl, tb⟩
      | false =>
        rw [hop] at hO
        have HO := Lib.hid hO
        have hboth := both_adr s.data.toList t.data.toList hop
        have hP1 := fun W => parse_prs s W (by omega)
        have hP2 := fun W => parse_prs t W (by omega)
        obtain ⟨S, hS⟩ : ∃ S : ByteArray, S = s ++ ⟨#[44]⟩ ++ t := ⟨_, rfl⟩
        have hSd : S.data.toList = s.data.toList ++ 44 :: t.data.toList := by rw [hS]; simp [ByteArray.data_append]
        have hSz : S.size = s.size + 1 + t.size := by rw [hS, ByteArray.size_append, ByteArray.size_append]; rfl
        have hP3 := fun W => parse_prs S W (by omega)
        have hln := adrsL_len S (by omega)
        have e1 : adrsL S.data.toList = adrsL s.data.toList ++ adrsL t.data.toList := by
          unfold adrsL
          rw [hSd, hboth, List.map_append]
        have e2 : (parseA S.data.toList).2 = ((parseA s.data.toList).2 && (parseA t.data.toList).2) := by rw [hSd, hboth]
        rw [e1, e2] at hP3
        rw [e1] at hln
        clear e1 e2 hboth hSd hSz hO hop
        generalize adrsL s.data.toList = ya at *
        generalize adrsL t.data.toList = yb at *
        generalize (parseA s.data.toList).2 = ba at *
        generalize (parseA t.data.toList).2 = bb at *
        rw [hS] at hP3
        have hl2 : ya.length + yb.length ≤ 2000000 := by rw [List.length_append] at hln; exact hln
        have HP1 := Lib.hid hP1
        have HP2 := Lib.hid hP2
        have HP3 := Lib.hid hP3
        clear hP1 hP2 hP3 hS
        go_enter Tryz.func6, Tryz.ntmps6
        go_upto_region 7 with (first
          | (go_at_call 10; (with_reducible refine HS.out.mono ?_); rintro e w1 ⟨rfl, hb1⟩; have tb := tb.trans hb1)
          | (go_at_call 24; (with_reducible refine (HO.out _).mono ?_); rintro e w2 ⟨rfl, hb2⟩; have tb := tb.trans (hb2.mono tb.size))
          | (go_at_call 11; (with_reducible refine (HP1.out _).mono ?_); rintro e w3 ⟨v3, rfl, ⟨B3, ho3⟩, hs3, hb3⟩; have tb := tb.trans (hb3.mono tb.size))
          | (go_at_call 11; (with_reducible refine (HP2.out _).mono ?_); rintro e w4 ⟨v4, rfl, ⟨B4, ho4⟩, hs4, hb4⟩; have tb := tb.trans (hb4.mono tb.size); have ho3 := ownsG.below ho3 hb4 (Nat.le_refl _))
          | (go_at_call 11; (with_reducible refine (HP3.out _).mono ?_); rintro e w5 ⟨v5, rfl, -, hs5, hb5⟩; have tb := tb.trans (hb5.mono tb.size); have ho3 := ownsG.below ho3 hb5 (Nat.le_refl _); have ho4 := ownsG.below ho4 hb5 (Nat.le_refl _)))
        rcases ownForm ho3 with ⟨rfl, rfl⟩ | ⟨ga, ca, rfl, hcA⟩
        · rcases ownForm ho4 with ⟨rfl, rfl⟩ | ⟨gb, cb, rfl, hcB⟩
          · have hbE := one_alloc w5 (.cells #[] 34)
            have hs5 : AdSees w5 v5 [] := hs5
            have hln : ([] : List AdB).length ≤ 2000000 := by decide
            clear ho3 ho4
            cases ba <;> cases bb <;> (
              go_wp2_with (first
                | (go_at_call 13; go_loud ((with_reducible refine (sameA_refl _ _ [] _ (hs5.later hbE) (AdSees.nilS _ _ _) hln).mono ?_); rintro e w8 ⟨rfl, hb8⟩; have tb := tb.trans ((hbE).mono tb.size); have tb := tb.trans (hb8.mono tb.size))))
              go_ret
              exact ⟨by first | rfl | (simp; done), tb⟩)
          · have hcB : CellsA w5 gb yb := hcB
            have hbE := one_alloc w5 (.cells #[] 34)
            have hE := owns_empty w5 w5.heap.size 34 (Nat.le_refl _)
            have hcB1 := hcB.later hbE
            have hs5 : AdSees w5 v5 yb := hs5
            have hln : yb.length ≤ 2000000 := hln
            have hl2 : yb.length ≤ 2000000 := hln
            clear ho3 ho4
            cases ba <;> cases bb <;> (
              go_wp2_with (first
                | (at_builtin; (refine wpList_unguard (by rfl) ?_; refine append_g _ rfl (.tmp 49) (.tmp 50) adT rfl w5.heap.size _ _ rfl hE ⟨gb, 0, none⟩ yb _ _ rfl rfl (fun j u h => hcB1 j u h) (show (0 + yb.length) * 48 ≤ 140737488355328 by omega) (show 0 + yb.length ≤ 140737488355328 by omega) hbE.size ?_; intro v7 w7 hown7 hg7; have hb7 := Below_grownG hbE hE hg7 hbE.size; clear hg7))
                | (go_at_call 13; go_loud ((with_reducible refine (sameA_refl _ _ yb _ (hs5.later hb7) (AdSees.of_owns hown7) hln).mono ?_); rintro e w8 ⟨rfl, hb8⟩; have tb := tb.trans ((hb7).mono tb.size); have tb := tb.trans (hb8.mono tb.size))))
              go_ret
              exact ⟨by first | rfl | (simp; done), tb⟩)
        · have hcA : CellsA w5 ga ya := hcA
          rcases ownForm ho4 with ⟨rfl, rfl⟩ | ⟨gb, cb, rfl, hcB⟩
          · rw [List.append_nil] at hs5 hln
            have hbE := one_alloc w5 (.cells #[] 34)
            have hE := owns_empty w5 w5.heap.size 34 (Nat.le_refl _)
            have hcA1 := hcA.later hbE
            clear ho3 ho4
            cases ba <;> cases bb <;> (
              go_wp2_with (first
                | (at_builtin; (refine wpList_unguard (by rfl) ?_; refine append_g _ rfl (.tmp 47) (.tmp 48) adT rfl w5.heap.size _ _ rfl hE ⟨ga, 0, none⟩ ya _ _ rfl rfl (fun j u h => hcA1 j u h) (show (0 + ya.length) * 48 ≤ 140737488355328 by omega) (show 0 + ya.length ≤ 140737488355328 by omega) hbE.size ?_; intro v6 w6 hown6 hg6; rw [List.nil_append] at hown6; have hb6 := Below_grownG hbE hE hg6 hbE.size; obtain ⟨p6, c6, rfl, hc6⟩ := own_shapeG hown6; clear hg6))
                | (go_at_call 13; go_loud ((with_reducible refine (sameA_refl _ _ ya _ (hs5.later hb6) (AdSees.of_owns hown6) hln).mono ?_); rintro e w8 ⟨rfl, hb8⟩; have tb := tb.trans ((hb6).mono tb.size); have tb := tb.trans (hb8.mono tb.size))))
              all_goals (simp only [Sem.run_pure, Result.andThen])
              all_goals go_wp2_with (first
                | (go_at_call 13; go_loud ((with_reducible refine (sameA_refl _ _ ya _ (hs5.later hb6) (AdSees.of_owns hown6) hln).mono ?_); rintro e w8 ⟨rfl, hb8⟩; have tb := tb.trans ((hb6).mono tb.size); have tb := tb.trans (hb8.mono tb.size))))
              all_goals go_ret
              all_goals exact ⟨by first | rfl | (simp; done), tb⟩)
          · have hcB : CellsA w5 gb yb := hcB
            have hbE := one_alloc w5 (.cells #[] 34)
            have hE := owns_empty w5 w5.heap.size 34 (Nat.le_refl _)
            have hcA1 := hcA.later hbE
            clear ho3 ho4
            cases ba <;> cases bb <;> (
              go_wp2_with (first
                | (at_builtin; (refine wpList_unguard (by rfl) ?_; refine append_g _ rfl (.tmp 47) (.tmp 48) adT rfl w5.heap.size _ _ rfl hE ⟨ga, 0, none⟩ ya _ _ rfl rfl (fun j u h => hcA1 j u h) (show (0 + ya.length) * 48 ≤ 140737488355328 by omega) (show 0 + ya.length ≤ 140737488355328 by omega) hbE.size ?_; intro v6 w6 hown6 hg6; rw [List.nil_append] at hown6; have hb6 := Below_grownG hbE hE hg6 hbE.size; obtain ⟨p6, c6, rfl, hc6⟩ := own_shapeG hown6; clear hg6))
                | (at_builtin; (refine wpList_unguard (by rfl) ?_; refine append_g _ rfl (.tmp 49) (.tmp 50) adT rfl w5.heap.size _ _ rfl hown6 ⟨gb, 0, none⟩ yb _ _ rfl rfl (fun j u h => hcB.later hb6 j u h) (by omega) (by omega) hb6.size ?_; intro v7 w7 hown7 hg7; have hb7 := Below_grownG hb6 hown6 hg7 hb6.size; clear hg7))
                | (go_at_call 13; go_loud ((with_reducible refine (sameA_refl _ _ (ya ++ yb) _ (hs5.later hb7) (AdSees.of_owns hown7) hln).mono ?_); rintro e w8 ⟨rfl, hb8⟩; have tb := tb.trans ((hb7).mono tb.size); have tb := tb.trans (hb8.mono tb.size))))
              go_ret
              exact ⟨by first | rfl | (simp; done), tb⟩)
    · have q2 : decide ((500 : Int) < (t.size : Int)) = true := decide_eq_true (by omega)
      have q2' : decide ((t.size : Int) > 500) = true := decide_eq_true (by omega)
      go_enter Tryz.func6, Tryz.ntmps6
      go_wp2_with (go_at_call 10; (with_reducible refine HS.out.mono ?_); rintro e w1 ⟨rfl, hb1⟩)
      go_ret
      exact ⟨rfl, hb1⟩
  · have q1 : decide ((500 : Int) < (s.size : Int)) = true := decide_eq_true (by omega)
    have q1' : decide ((s.size : Int) > 500) = true := decide_eq_true (by omega)
    go_enter Tryz.func6, Tryz.ntmps6
    go_wp2_with (go_at_call 10; (with_reducible refine HS.out.mono ?_); rintro e w1 ⟨rfl, hb1⟩)
    go_ret
    exact ⟨rfl, hb1⟩
end Go.Proofs.YtilccofdphohiaaGreatDoor
