/- Walks: dates: clock. -/
import Derived.Test.YtlgnhngbmciaoaaDoorDt5
import Derived.Test.YtlgnhngbmciaoaaDoorSplP
import Derived.Test.YtlgnhngbmciaoaaDoorShelf
import Derived.ArgAppend
import Derived.WalkLawsBesides
namespace Go.Proofs.YtlgnhngbmciaoaaDoor
open Go.RowKit Pk Dt

/-- append to a slice of strings that is full, wherever it begins -/
theorem append_full {P : Program} (w : World) {ops : Array Oper} {rest : List Oper} {o : Oper} {a : Act} {Q : Exit → Act → World → Prop} (hgd : o.guard = none) (s x : Operand) {t e : TypeId} (hT : StrSl P t e)
    (ho : o.op = .call { callee := .builtin .append, args := #[s, x], argTypes := #[t, t] }) (g o0 n : Nat) (l : List ByteArray) (hs : a.eval s = .slice (some ⟨g, o0, none⟩) n n) (hn : l.length = n)
    (hl : ∀ j (hj : j < l.length), w.cell? ⟨g, o0 + j, none⟩ = some (.string l[j])) (ad : Addr) (y : ByteArray) (hx : a.eval x = .slice (some ad) 1 1) (hy : w.cell? ad = some (.string y)) (hb : n ≤ 1000000)
    (h : ∀ g' cap w', (∀ j (hj : j < (l ++ [y]).length), w'.cell? ⟨g', j, none⟩ = some (.string (l ++ [y])[j])) → w.heap.size ≤ g' → g' < w'.heap.size → n + 1 ≤ cap → w.grownBy w' none → wpList P ops Q rest (a.put o.dst (.slice (some ⟨g', 0, none⟩) (n + 1) cap)) w') :
    wpList P ops Q (o :: rest) a w := by
  obtain ⟨i, hi, hz, hsize, hby⟩ := hT.hi
  refine wpList_append_grows w hgd s x t ho e i (.string ⟨#[]⟩) 1 16 hT.ht hi hz hsize hby rfl (by decide) (some ⟨g, o0, none⟩) n n (l.map strV) hs (fun h => by cases h) (by rw [List.length_map, hn]; omega)
    (fun b hb j u hu => ?_) ad 1 1 [strV y] hx rfl (fun j u hu => ?_) (fun u hu => ?_) (by omega) (by unfold maxLen; omega) (by omega) ?_
  · injection hb with hb
    subst hb
    rw [List.getElem?_map] at hu
    cases hj : l[j]? with
    | none => rw [hj] at hu; cases hu
    | some z =>
      rw [hj] at hu
      obtain ⟨h1, h2⟩ := List.getElem?_eq_some_iff.1 hj
      simp only [Option.map_some, Option.some.injEq] at hu
      rw [← hu, ← h2]
      rw [Addr.add_lit]
      exact hl j h1
  · match j, hu with
    | 0, hu =>
      simp only [List.getElem?_cons_zero, Option.some.injEq] at hu
      rw [← hu]
      exact hy
    | j + 1, hu => simp at hu
  · simp only [List.mem_singleton] at hu
    rw [hu]; rfl
  · intro v' w' hown hgr
    have hown' : ownsS w' w.heap.size e v' (l ++ [y]) := by
      unfold ownsS
      rw [List.length_append, List.map_append, hn]
      exact hown
    rcases hown'.form with ⟨h1, h2⟩ | ⟨g', cap, h1, h2, h3, h4, h5⟩
    · exact absurd h2 (by simp)
    · have h6 := h5 0 (by simp)
      rw [h1]
      rw [List.length_append, hn] at h1 h3 ⊢
      exact h g' cap w' h5 h2 (World.block_lt_of_cell? _ _ h6) (by simpa using h3) hgr
theorem sslD : StrSl Tryd.prog 43 9 where
  ht := Tryd.underlying43
  hi := info_parts (show (Tryd.prog.info? 9).map (fun i => (i.zero, i.size, i.bytes)) = some (some (.string ⟨#[]⟩), 1, 16) by kernel_rfl)
theorem colons_spl : ∀ (l cur : List UInt8), colons cur l = match spl 58 l with
    | [] => [cur]
    | h :: t => (cur ++ h) :: t
  | [], cur => by simp [colons, spl]
  | c :: r, cur => by
    unfold colons spl
    by_cases h : c = 58
    · rw [if_pos h, if_pos h, colons_spl r []]
      have := spl_ne 58 r
      cases hs : spl 58 r with
      | nil => exact absurd hs this
      | cons a b => simp
    · rw [if_neg h, if_neg h, colons_spl r (cur ++ [c])]
      have := spl_ne 58 r
      cases hs : spl 58 r with
      | nil => exact absurd hs this
      | cons a b => simp
theorem colons_nil (l : List UInt8) : colons [] l = spl 58 l := by
  rw [colons_spl]
  cases hs : spl 58 l with
  | nil => exact absurd hs (spl_ne 58 l)
  | cons a b => rfl
theorem split58 (s : ByteArray) (w : World) (m : Int) (hm : w.cell? ⟨2, 0, none⟩ = some (.int .i64 m)) (hs : s.size ≤ 100000000) :
    ∃ WS : List ByteArray, WS.map (·.data.toList) = colons [] s.data.toList ∧ WS.length ≤ 100000001 ∧ Calls Tryd.prog 36 #[.string s, .string ⟨#[58]⟩] w fun e w' => e = .returned (.slice (some ⟨w.heap.size, 0, none⟩) WS.length WS.length) ∧ w' = w.alloc (.cells (WS.map Value.string).toArray 9) := by
  have hl := Lib.splitB_all ⟨#[58]⟩ (Nat.le_refl 1) 0 _ s rfl
  refine ⟨Lib.splitB ⟨#[58]⟩ 0 (Lib.countB s ⟨#[58]⟩) s, ?_, ?_, ?_⟩
  · rw [colons_nil]; exact splitB_spl s 58
  · rw [hl, countB_one]
    have : s.data.toList.count 58 ≤ s.data.toList.length := List.count_le_length
    rw [dataL] at this
    omega
  · rw [hl]
    exact Tryd.strings_Split s ⟨#[58]⟩ m w (by omega) hm (Nat.le_refl 1)
theorem laterC {w w' : World} (hb : Below w.heap.size w w') {g j : Nat} {v : Value} (h : w.cell? ⟨g, j, none⟩ = some v) : w'.cell? ⟨g, j, none⟩ = some v := (hb.cell (p := ⟨g, j, none⟩) (World.block_lt_of_cell? _ _ h)).trans h
theorem pairE {a b : Int} {x y : Bool} (h : a = b) (h2 : x = y) : Ending.returned (.tuple #[.int .i64 a, .bool x]) = .returned (.tuple #[.int .i64 b, .bool y]) := by rw [h, h2]
def Cl3 (h mi sec : Int) (o1 o2 o3 : Bool) : Int × Bool := (3600 * h + 60 * mi + min sec 59, o1 && (o2 && (o3 && (decide (h < 24) && (decide (mi < 60) && decide (sec < 61))))))
set_option maxHeartbeats 4000000 in
set_option maxRecDepth 100000 in
theorem clock3_any (s A B C : ByteArray) (w : World) (hS : Calls Tryd.prog 36 #[.string s, .string ⟨#[58]⟩] w fun e w' => e = .returned (.slice (some ⟨w.heap.size, 0, none⟩) 3 3) ∧ w' = w.alloc (.cells #[.string A, .string B, .string C] 9)) :
    Calls Tryd.prog 26 #[.string s] w (PairD (clock3 A.data.toList B.data.toList C.data.toList) w) := by
  have hA := fun w => digits22 A w
  have hB := fun w => digits22 B w
  have hC := fun w => digits22 C w
  obtain ⟨a1, a2⟩ := nbd_le (digL_nbd 2 2 A.data.toList) (by omega)
  obtain ⟨b1, b2⟩ := nbd_le (digL_nbd 2 2 B.data.toList) (by omega)
  obtain ⟨d1, d2⟩ := nbd_le (digL_nbd 2 2 C.data.toList) (by omega)
  unfold clock3
  generalize digL 2 2 A.data.toList = x at *
  generalize digL 2 2 B.data.toList = y at *
  generalize digL 2 2 C.data.toList = z at *
  obtain ⟨h, o1⟩ := x
  obtain ⟨mi, o2⟩ := y
  obtain ⟨sec, o3⟩ := z
  unfold PairD at *
  simp only at *
  have HS := Lib.hid hS
  have HA := Lib.hid hA
  have HB := Lib.hid hB
  have HC := Lib.hid hC
  have tb0 : Below w.heap.size w (w.alloc (.cells #[.string A, .string B, .string C] 9)) := (Below.refl _ _).alloc (Nat.le_refl _) _
  have c0 : (w.alloc (.cells #[.string A, .string B, .string C] 9)).cell? ⟨w.heap.size, 0, none⟩ = some (.string A) := by simp
  have c1 : (w.alloc (.cells #[.string A, .string B, .string C] 9)).cell? ⟨w.heap.size, 1, none⟩ = some (.string B) := by simp
  have c2 : (w.alloc (.cells #[.string A, .string B, .string C] 9)).cell? ⟨w.heap.size, 2, none⟩ = some (.string C) := by simp
  clear hS hA hB hC
  cases o1 with
  | false =>
    go_enter Tryd.func26, Tryd.ntmps26
    go_wp2_with (first
      | (go_at_call 36; (with_reducible refine HS.out.mono ?_); rintro e w' ⟨rfl, rfl⟩; have tb := tb0)
      | (go_at_call 23; (with_reducible refine (HA.out _).mono ?_); rintro e w4 ⟨rfl, hb4⟩; have tb := tb.trans (hb4.mono tb.size); have c1 := laterC hb4 c1; have c2 := laterC hb4 c2)
      | (go_at_call 23; (with_reducible refine (HB.out _).mono ?_); rintro e w5 ⟨rfl, hb5⟩; have tb := tb.trans (hb5.mono tb.size); have c2 := laterC hb5 c2)
      | (go_at_call 23; (with_reducible refine (HC.out _).mono ?_); rintro e w6 ⟨rfl, hb6⟩; have tb := tb.trans (hb6.mono tb.size)))
    all_goals
      go_ret2
      exact ⟨pairE (by omega) (by first | rfl | (simp; done) | (simp [*]; done) | (simp; omega)), tb⟩
  | true =>
    cases o2 with
    | false =>
      go_enter Tryd.func26, Tryd.ntmps26
      go_wp2_with (first
        | (go_at_call 36; (with_reducible refine HS.out.mono ?_); rintro e w' ⟨rfl, rfl⟩; have tb := tb0)
        | (go_at_call 23; (with_reducible refine (HA.out _).mono ?_); rintro e w4 ⟨rfl, hb4⟩; have tb := tb.trans (hb4.mono tb.size); have c1 := laterC hb4 c1; have c2 := laterC hb4 c2)
        | (go_at_call 23; (with_reducible refine (HB.out _).mono ?_); rintro e w5 ⟨rfl, hb5⟩; have tb := tb.trans (hb5.mono tb.size); have c2 := laterC hb5 c2)
        | (go_at_call 23; (with_reducible refine (HC.out _).mono ?_); rintro e w6 ⟨rfl, hb6⟩; have tb := tb.trans (hb6.mono tb.size)))
      all_goals
        go_ret2
        exact ⟨pairE (by omega) (by first | rfl | (simp; done) | (simp [*]; done) | (simp; omega)), tb⟩
    | true =>
      cases o3 with
      | false =>
        go_enter Tryd.func26, Tryd.ntmps26
        go_wp2_with (first
          | (go_at_call 36; (with_reducible refine HS.out.mono ?_); rintro e w' ⟨rfl, rfl⟩; have tb := tb0)
          | (go_at_call 23; (with_reducible refine (HA.out _).mono ?_); rintro e w4 ⟨rfl, hb4⟩; have tb := tb.trans (hb4.mono tb.size); have c1 := laterC hb4 c1; have c2 := laterC hb4 c2)
          | (go_at_call 23; (with_reducible refine (HB.out _).mono ?_); rintro e w5 ⟨rfl, hb5⟩; have tb := tb.trans (hb5.mono tb.size); have c2 := laterC hb5 c2)
          | (go_at_call 23; (with_reducible refine (HC.out _).mono ?_); rintro e w6 ⟨rfl, hb6⟩; have tb := tb.trans (hb6.mono tb.size)))
        all_goals
          go_ret2
          exact ⟨pairE (by omega) (by first | rfl | (simp; done) | (simp [*]; done) | (simp; omega)), tb⟩
      | true =>
        by_cases g1 : h < 24
        · by_cases g2 : mi < 60
          · by_cases g3 : sec < 61
            · skip
              go_enter Tryd.func26, Tryd.ntmps26
              go_wp2_with (first
                | (go_at_call 36; (with_reducible refine HS.out.mono ?_); rintro e w' ⟨rfl, rfl⟩; have tb := tb0)
                | (go_at_call 23; (with_reducible refine (HA.out _).mono ?_); rintro e w4 ⟨rfl, hb4⟩; have tb := tb.trans (hb4.mono tb.size); have c1 := laterC hb4 c1; have c2 := laterC hb4 c2)
                | (go_at_call 23; (with_reducible refine (HB.out _).mono ?_); rintro e w5 ⟨rfl, hb5⟩; have tb := tb.trans (hb5.mono tb.size); have c2 := laterC hb5 c2)
                | (go_at_call 23; (with_reducible refine (HC.out _).mono ?_); rintro e w6 ⟨rfl, hb6⟩; have tb := tb.trans (hb6.mono tb.size)))
              all_goals
                go_ret2
                exact ⟨pairE (by omega) (by first | rfl | (simp; done) | (simp [*]; done) | (simp; omega)), tb⟩
            · skip
              go_enter Tryd.func26, Tryd.ntmps26
              go_wp2_with (first
                | (go_at_call 36; (with_reducible refine HS.out.mono ?_); rintro e w' ⟨rfl, rfl⟩; have tb := tb0)
                | (go_at_call 23; (with_reducible refine (HA.out _).mono ?_); rintro e w4 ⟨rfl, hb4⟩; have tb := tb.trans (hb4.mono tb.size); have c1 := laterC hb4 c1; have c2 := laterC hb4 c2)
                | (go_at_call 23; (with_reducible refine (HB.out _).mono ?_); rintro e w5 ⟨rfl, hb5⟩; have tb := tb.trans (hb5.mono tb.size); have c2 := laterC hb5 c2)
                | (go_at_call 23; (with_reducible refine (HC.out _).mono ?_); rintro e w6 ⟨rfl, hb6⟩; have tb := tb.trans (hb6.mono tb.size)))
              all_goals
                go_ret2
                exact ⟨pairE (by omega) (by first | rfl | (simp; done) | (simp [*]; done) | (simp; omega)), tb⟩
          · skip
            go_enter Tryd.func26, Tryd.ntmps26
            go_wp2_with (first
              | (go_at_call 36; (with_reducible refine HS.out.mono ?_); rintro e w' ⟨rfl, rfl⟩; have tb := tb0)
              | (go_at_call 23; (with_reducible refine (HA.out _).mono ?_); rintro e w4 ⟨rfl, hb4⟩; have tb := tb.trans (hb4.mono tb.size); have c1 := laterC hb4 c1; have c2 := laterC hb4 c2)
              | (go_at_call 23; (with_reducible refine (HB.out _).mono ?_); rintro e w5 ⟨rfl, hb5⟩; have tb := tb.trans (hb5.mono tb.size); have c2 := laterC hb5 c2)
              | (go_at_call 23; (with_reducible refine (HC.out _).mono ?_); rintro e w6 ⟨rfl, hb6⟩; have tb := tb.trans (hb6.mono tb.size)))
            all_goals
              go_ret2
              exact ⟨pairE (by omega) (by first | rfl | (simp; done) | (simp [*]; done) | (simp; omega)), tb⟩
        · skip
          go_enter Tryd.func26, Tryd.ntmps26
          go_wp2_with (first
            | (go_at_call 36; (with_reducible refine HS.out.mono ?_); rintro e w' ⟨rfl, rfl⟩; have tb := tb0)
            | (go_at_call 23; (with_reducible refine (HA.out _).mono ?_); rintro e w4 ⟨rfl, hb4⟩; have tb := tb.trans (hb4.mono tb.size); have c1 := laterC hb4 c1; have c2 := laterC hb4 c2)
            | (go_at_call 23; (with_reducible refine (HB.out _).mono ?_); rintro e w5 ⟨rfl, hb5⟩; have tb := tb.trans (hb5.mono tb.size); have c2 := laterC hb5 c2)
            | (go_at_call 23; (with_reducible refine (HC.out _).mono ?_); rintro e w6 ⟨rfl, hb6⟩; have tb := tb.trans (hb6.mono tb.size)))
          all_goals
            go_ret2
            exact ⟨pairE (by omega) (by first | rfl | (simp; done) | (simp [*]; done) | (simp; omega)), tb⟩
set_option maxHeartbeats 4000000 in
set_option maxRecDepth 100000 in
theorem clock2_any (s A B : ByteArray) (w : World) (hS : Calls Tryd.prog 36 #[.string s, .string ⟨#[58]⟩] w fun e w' => e = .returned (.slice (some ⟨w.heap.size, 0, none⟩) 2 2) ∧ w' = w.alloc (.cells #[.string A, .string B] 9)) :
    Calls Tryd.prog 26 #[.string s] w (PairD (clock3 A.data.toList B.data.toList [48, 48]) w) := by
  have hA := fun w => digits22 A w
  have hB := fun w => digits22 B w
  have hC : ∀ w, Calls Tryd.prog 23 #[.string ⟨#[48, 48]⟩, .int .i64 2, .int .i64 2] w (PairD (digL 2 2 [48, 48]) w) := fun w => digits22 ⟨#[48, 48]⟩ w
  obtain ⟨a1, a2⟩ := nbd_le (digL_nbd 2 2 A.data.toList) (by omega)
  obtain ⟨b1, b2⟩ := nbd_le (digL_nbd 2 2 B.data.toList) (by omega)
  obtain ⟨d1, d2⟩ := nbd_le (digL_nbd 2 2 [48, 48]) (by omega)
  unfold clock3
  generalize digL 2 2 A.data.toList = x at *
  generalize digL 2 2 B.data.toList = y at *
  generalize digL 2 2 [48, 48] = z at *
  obtain ⟨h, o1⟩ := x
  obtain ⟨mi, o2⟩ := y
  obtain ⟨sec, o3⟩ := z
  unfold PairD at *
  simp only at *
  have HS := Lib.hid hS
  have HA := Lib.hid hA
  have HB := Lib.hid hB
  have HC := Lib.hid hC
  have tb0 : Below w.heap.size w (w.alloc (.cells #[.string A, .string B] 9)) := (Below.refl _ _).alloc (Nat.le_refl _) _
  have HL : Hid (∀ (o : Obj) j (hj : j < [A, B].length), ((w.alloc (.cells #[.string A, .string B] 9)).alloc o).cell? ⟨w.heap.size, 0 + j, none⟩ = some (.string [A, B][j])) := fun o j hj => by
    match j, hj with
    | 0, _ => simp
    | 1, _ => simp
  clear hS hA hB hC
  cases o1 with
  | false =>
    go_enter Tryd.func26, Tryd.ntmps26
    go_wp2_with (first
      | (go_at_call 36; (with_reducible refine HS.out.mono ?_); rintro e w' ⟨rfl, rfl⟩; have tb := tb0)
      | (at_builtin; refine append_full _ rfl (.tmp 16) (.tmp 17) sslD rfl w.heap.size 0 2 [A, B] rfl rfl (HL.out _) _ ⟨#[48, 48]⟩ rfl (by simp) (by decide) ?_; intro g cap w3 hcl hg0 hg1 hcp hgr; have tb := (tb.alloc tb.size _).grown hgr (by first | (simp; done) | (simp; omega)) (fun k hk => by cases hk); have c0 : w3.cell? ⟨g, 0, none⟩ = some (.string A) := hcl 0 (by simp); have c1 : w3.cell? ⟨g, 1, none⟩ = some (.string B) := hcl 1 (by simp); have c2 : w3.cell? ⟨g, 2, none⟩ = some (.string ⟨#[48, 48]⟩) := hcl 2 (by simp); clear hcl hgr)
      | (go_at_call 23; (with_reducible refine (HA.out _).mono ?_); rintro e w4 ⟨rfl, hb4⟩; have tb := tb.trans (hb4.mono tb.size); have c1 := laterC hb4 c1; have c2 := laterC hb4 c2)
      | (go_at_call 23; (with_reducible refine (HB.out _).mono ?_); rintro e w5 ⟨rfl, hb5⟩; have tb := tb.trans (hb5.mono tb.size); have c2 := laterC hb5 c2)
      | (go_at_call 23; (with_reducible refine (HC.out _).mono ?_); rintro e w6 ⟨rfl, hb6⟩; have tb := tb.trans (hb6.mono tb.size)))
    all_goals
      go_ret2
      exact ⟨pairE (by omega) (by first | rfl | (simp; done) | (simp [*]; done) | (simp; omega)), tb⟩
  | true =>
    cases o2 with
    | false =>
      go_enter Tryd.func26, Tryd.ntmps26
      go_wp2_with (first
        | (go_at_call 36; (with_reducible refine HS.out.mono ?_); rintro e w' ⟨rfl, rfl⟩; have tb := tb0)
        | (at_builtin; refine append_full _ rfl (.tmp 16) (.tmp 17) sslD rfl w.heap.size 0 2 [A, B] rfl rfl (HL.out _) _ ⟨#[48, 48]⟩ rfl (by simp) (by decide) ?_; intro g cap w3 hcl hg0 hg1 hcp hgr; have tb := (tb.alloc tb.size _).grown hgr (by first | (simp; done) | (simp; omega)) (fun k hk => by cases hk); have c0 : w3.cell? ⟨g, 0, none⟩ = some (.string A) := hcl 0 (by simp); have c1 : w3.cell? ⟨g, 1, none⟩ = some (.string B) := hcl 1 (by simp); have c2 : w3.cell? ⟨g, 2, none⟩ = some (.string ⟨#[48, 48]⟩) := hcl 2 (by simp); clear hcl hgr)
        | (go_at_call 23; (with_reducible refine (HA.out _).mono ?_); rintro e w4 ⟨rfl, hb4⟩; have tb := tb.trans (hb4.mono tb.size); have c1 := laterC hb4 c1; have c2 := laterC hb4 c2)
        | (go_at_call 23; (with_reducible refine (HB.out _).mono ?_); rintro e w5 ⟨rfl, hb5⟩; have tb := tb.trans (hb5.mono tb.size); have c2 := laterC hb5 c2)
        | (go_at_call 23; (with_reducible refine (HC.out _).mono ?_); rintro e w6 ⟨rfl, hb6⟩; have tb := tb.trans (hb6.mono tb.size)))
      all_goals
        go_ret2
        exact ⟨pairE (by omega) (by first | rfl | (simp; done) | (simp [*]; done) | (simp; omega)), tb⟩
    | true =>
      cases o3 with
      | false =>
        go_enter Tryd.func26, Tryd.ntmps26
        go_wp2_with (first
          | (go_at_call 36; (with_reducible refine HS.out.mono ?_); rintro e w' ⟨rfl, rfl⟩; have tb := tb0)
          | (at_builtin; refine append_full _ rfl (.tmp 16) (.tmp 17) sslD rfl w.heap.size 0 2 [A, B] rfl rfl (HL.out _) _ ⟨#[48, 48]⟩ rfl (by simp) (by decide) ?_; intro g cap w3 hcl hg0 hg1 hcp hgr; have tb := (tb.alloc tb.size _).grown hgr (by first | (simp; done) | (simp; omega)) (fun k hk => by cases hk); have c0 : w3.cell? ⟨g, 0, none⟩ = some (.string A) := hcl 0 (by simp); have c1 : w3.cell? ⟨g, 1, none⟩ = some (.string B) := hcl 1 (by simp); have c2 : w3.cell? ⟨g, 2, none⟩ = some (.string ⟨#[48, 48]⟩) := hcl 2 (by simp); clear hcl hgr)
          | (go_at_call 23; (with_reducible refine (HA.out _).mono ?_); rintro e w4 ⟨rfl, hb4⟩; have tb := tb.trans (hb4.mono tb.size); have c1 := laterC hb4 c1; have c2 := laterC hb4 c2)
          | (go_at_call 23; (with_reducible refine (HB.out _).mono ?_); rintro e w5 ⟨rfl, hb5⟩; have tb := tb.trans (hb5.mono tb.size); have c2 := laterC hb5 c2)
          | (go_at_call 23; (with_reducible refine (HC.out _).mono ?_); rintro e w6 ⟨rfl, hb6⟩; have tb := tb.trans (hb6.mono tb.size)))
        all_goals
          go_ret2
          exact ⟨pairE (by omega) (by first | rfl | (simp; done) | (simp [*]; done) | (simp; omega)), tb⟩
      | true =>
        by_cases g1 : h < 24
        · by_cases g2 : mi < 60
          · by_cases g3 : sec < 61
            · skip
              go_enter Tryd.func26, Tryd.ntmps26
              go_wp2_with (first
                | (go_at_call 36; (with_reducible refine HS.out.mono ?_); rintro e w' ⟨rfl, rfl⟩; have tb := tb0)
                | (at_builtin; refine append_full _ rfl (.tmp 16) (.tmp 17) sslD rfl w.heap.size 0 2 [A, B] rfl rfl (HL.out _) _ ⟨#[48, 48]⟩ rfl (by simp) (by decide) ?_; intro g cap w3 hcl hg0 hg1 hcp hgr; have tb := (tb.alloc tb.size _).grown hgr (by first | (simp; done) | (simp; omega)) (fun k hk => by cases hk); have c0 : w3.cell? ⟨g, 0, none⟩ = some (.string A) := hcl 0 (by simp); have c1 : w3.cell? ⟨g, 1, none⟩ = some (.string B) := hcl 1 (by simp); have c2 : w3.cell? ⟨g, 2, none⟩ = some (.string ⟨#[48, 48]⟩) := hcl 2 (by simp); clear hcl hgr)
                | (go_at_call 23; (with_reducible refine (HA.out _).mono ?_); rintro e w4 ⟨rfl, hb4⟩; have tb := tb.trans (hb4.mono tb.size); have c1 := laterC hb4 c1; have c2 := laterC hb4 c2)
                | (go_at_call 23; (with_reducible refine (HB.out _).mono ?_); rintro e w5 ⟨rfl, hb5⟩; have tb := tb.trans (hb5.mono tb.size); have c2 := laterC hb5 c2)
                | (go_at_call 23; (with_reducible refine (HC.out _).mono ?_); rintro e w6 ⟨rfl, hb6⟩; have tb := tb.trans (hb6.mono tb.size)))
              all_goals
                go_ret2
                exact ⟨pairE (by omega) (by first | rfl | (simp; done) | (simp [*]; done) | (simp; omega)), tb⟩
            · skip
              go_enter Tryd.func26, Tryd.ntmps26
              go_wp2_with (first
                | (go_at_call 36; (with_reducible refine HS.out.mono ?_); rintro e w' ⟨rfl, rfl⟩; have tb := tb0)
                | (at_builtin; refine append_full _ rfl (.tmp 16) (.tmp 17) sslD rfl w.heap.size 0 2 [A, B] rfl rfl (HL.out _) _ ⟨#[48, 48]⟩ rfl (by simp) (by decide) ?_; intro g cap w3 hcl hg0 hg1 hcp hgr; have tb := (tb.alloc tb.size _).grown hgr (by first | (simp; done) | (simp; omega)) (fun k hk => by cases hk); have c0 : w3.cell? ⟨g, 0, none⟩ = some (.string A) := hcl 0 (by simp); have c1 : w3.cell? ⟨g, 1, none⟩ = some (.string B) := hcl 1 (by simp); have c2 : w3.cell? ⟨g, 2, none⟩ = some (.string ⟨#[48, 48]⟩) := hcl 2 (by simp); clear hcl hgr)
                | (go_at_call 23; (with_reducible refine (HA.out _).mono ?_); rintro e w4 ⟨rfl, hb4⟩; have tb := tb.trans (hb4.mono tb.size); have c1 := laterC hb4 c1; have c2 := laterC hb4 c2)
                | (go_at_call 23; (with_reducible refine (HB.out _).mono ?_); rintro e w5 ⟨rfl, hb5⟩; have tb := tb.trans (hb5.mono tb.size); have c2 := laterC hb5 c2)
                | (go_at_call 23; (with_reducible refine (HC.out _).mono ?_); rintro e w6 ⟨rfl, hb6⟩; have tb := tb.trans (hb6.mono tb.size)))
              all_goals
                go_ret2
                exact ⟨pairE (by omega) (by first | rfl | (simp; done) | (simp [*]; done) | (simp; omega)), tb⟩
          · skip
            go_enter Tryd.func26, Tryd.ntmps26
            go_wp2_with (first
              | (go_at_call 36; (with_reducible refine HS.out.mono ?_); rintro e w' ⟨rfl, rfl⟩; have tb := tb0)
              | (at_builtin; refine append_full _ rfl (.tmp 16) (.tmp 17) sslD rfl w.heap.size 0 2 [A, B] rfl rfl (HL.out _) _ ⟨#[48, 48]⟩ rfl (by simp) (by decide) ?_; intro g cap w3 hcl hg0 hg1 hcp hgr; have tb := (tb.alloc tb.size _).grown hgr (by first | (simp; done) | (simp; omega)) (fun k hk => by cases hk); have c0 : w3.cell? ⟨g, 0, none⟩ = some (.string A) := hcl 0 (by simp); have c1 : w3.cell? ⟨g, 1, none⟩ = some (.string B) := hcl 1 (by simp); have c2 : w3.cell? ⟨g, 2, none⟩ = some (.string ⟨#[48, 48]⟩) := hcl 2 (by simp); clear hcl hgr)
              | (go_at_call 23; (with_reducible refine (HA.out _).mono ?_); rintro e w4 ⟨rfl, hb4⟩; have tb := tb.trans (hb4.mono tb.size); have c1 := laterC hb4 c1; have c2 := laterC hb4 c2)
              | (go_at_call 23; (with_reducible refine (HB.out _).mono ?_); rintro e w5 ⟨rfl, hb5⟩; have tb := tb.trans (hb5.mono tb.size); have c2 := laterC hb5 c2)
              | (go_at_call 23; (with_reducible refine (HC.out _).mono ?_); rintro e w6 ⟨rfl, hb6⟩; have tb := tb.trans (hb6.mono tb.size)))
            all_goals
              go_ret2
              exact ⟨pairE (by omega) (by first | rfl | (simp; done) | (simp [*]; done) | (simp; omega)), tb⟩
        · skip
          go_enter Tryd.func26, Tryd.ntmps26
          go_wp2_with (first
            | (go_at_call 36; (with_reducible refine HS.out.mono ?_); rintro e w' ⟨rfl, rfl⟩; have tb := tb0)
            | (at_builtin; refine append_full _ rfl (.tmp 16) (.tmp 17) sslD rfl w.heap.size 0 2 [A, B] rfl rfl (HL.out _) _ ⟨#[48, 48]⟩ rfl (by simp) (by decide) ?_; intro g cap w3 hcl hg0 hg1 hcp hgr; have tb := (tb.alloc tb.size _).grown hgr (by first | (simp; done) | (simp; omega)) (fun k hk => by cases hk); have c0 : w3.cell? ⟨g, 0, none⟩ = some (.string A) := hcl 0 (by simp); have c1 : w3.cell? ⟨g, 1, none⟩ = some (.string B) := hcl 1 (by simp); have c2 : w3.cell? ⟨g, 2, none⟩ = some (.string ⟨#[48, 48]⟩) := hcl 2 (by simp); clear hcl hgr)
            | (go_at_call 23; (with_reducible refine (HA.out _).mono ?_); rintro e w4 ⟨rfl, hb4⟩; have tb := tb.trans (hb4.mono tb.size); have c1 := laterC hb4 c1; have c2 := laterC hb4 c2)
            | (go_at_call 23; (with_reducible refine (HB.out _).mono ?_); rintro e w5 ⟨rfl, hb5⟩; have tb := tb.trans (hb5.mono tb.size); have c2 := laterC hb5 c2)
            | (go_at_call 23; (with_reducible refine (HC.out _).mono ?_); rintro e w6 ⟨rfl, hb6⟩; have tb := tb.trans (hb6.mono tb.size)))
          all_goals
            go_ret2
            exact ⟨pairE (by omega) (by first | rfl | (simp; done) | (simp [*]; done) | (simp; omega)), tb⟩
set_option maxHeartbeats 1000000 in
set_option maxRecDepth 100000 in
theorem clock_any (s : ByteArray) (w : World) (m : Int) (hm : w.cell? ⟨2, 0, none⟩ = some (.int .i64 m)) (hs : s.size ≤ 100000000) : Calls Tryd.prog 26 #[.string s] w (PairD (clockL s.data.toList) w) := by
  obtain ⟨WS, h1, h2, hS⟩ := split58 s w m hm hs
  unfold clockL
  rw [← h1]
  have other : WS.length ≠ 2 → WS.length ≠ 3 → Calls Tryd.prog 26 #[.string s] w (PairD (0, false) w) := fun n2 n3 => by
    have q2 : ((WS.length : Int) == 2) = false := beq_eq_false_iff_ne.2 (by omega)
    have q3 : ((WS.length : Int) == 3) = false := beq_eq_false_iff_ne.2 (by omega)
    have q4 : ((WS.length : Int) != 3) = true := by rw [bne, q3]; rfl
    have tb0 : Below w.heap.size w (w.alloc (.cells (WS.map Value.string).toArray 9)) := (Below.refl _ _).alloc (Nat.le_refl _) _
    clear h1 n2 n3 hm
    generalize WS.length = n at *
    generalize w.alloc (.cells (WS.map Value.string).toArray 9) = w1 at *
    have HS := Lib.hid hS
    clear hS
    go_enter Tryd.func26, Tryd.ntmps26
    go_wp2_with (go_at_call 36; (with_reducible refine HS.out.mono ?_); rintro e w' ⟨rfl, rfl⟩)
    go_ret2
    exact ⟨rfl, tb0⟩
  match WS, hS, other with
  | [], hS, other => exact other (by decide) (by decide)
  | [A], hS, other => exact other (by simp) (by simp)
  | [A, B], hS, other => exact clock2_any s A B w hS
  | [A, B, C], hS, other => exact clock3_any s A B C w hS
  | A :: B :: C :: D :: r, hS, other => exact other (by simp) (by simp)
end Go.Proofs.YtlgnhngbmciaoaaDoor
