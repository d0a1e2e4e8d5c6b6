/- Walks: the law FoldPieces. -/
import Derived.Test.YtlbnhkojfefccaaDoorLaw5
import Derived.Test.YtlbnhkojfefccaaDoorFdK
import Derived.Deep.RegionHeld3
import Derived.Deep.DeepCutAuto
import Derived.Deep.CutBlock
namespace Go.Proofs.YtlbnhkojfefccaaDoor
open Go.RowKit Pk U8 Su Fo

/-- a byte that the law takes for a key -/
def okc (c : UInt8) : Bool := decide (c.toNat < 128) && !(c == 42) && !(c == 63) && !(c == 92)
theorem okc_t {c : UInt8} (h : okc c = true) : c.toNat < 128 ∧ c ≠ 42 ∧ c ≠ 63 ∧ c ≠ 92 := by
  unfold okc at h
  simp at h
  obtain ⟨⟨⟨h1, h2⟩, h3⟩, h4⟩ := h
  exact ⟨by simpa using h1, h2, h3, h4⟩
theorem okc_q {c : UInt8} (h : okc c = true) : decide ((128 : Int) ≤ (c.toNat : Int)) = false ∧ ((c.toNat : Int) == 42) = false ∧ ((c.toNat : Int) == 63) = false ∧ ((c.toNat : Int) == 92) = false := by
  obtain ⟨h1, h2, h3, h4⟩ := okc_t h
  have key : ∀ n : Nat, n < 256 → c ≠ UInt8.ofNat n → ((c.toNat : Int) == (n : Int)) = false := fun n hn hc => beq_eq_false_iff_ne.2 fun e => hc (by
    apply UInt8.toNat_inj.1
    rw [UInt8.toNat_ofNat']; omega)
  exact ⟨decide_eq_false (by omega), key 42 (by omega) h2, key 63 (by omega) h3, key 92 (by omega) h4⟩
theorem okc_f {c : UInt8} (h : okc c = false) : decide ((128 : Int) ≤ (c.toNat : Int)) = true ∨ (decide ((128 : Int) ≤ (c.toNat : Int)) = false ∧ ((c.toNat : Int) == 42) = true) ∨ (decide ((128 : Int) ≤ (c.toNat : Int)) = false ∧ ((c.toNat : Int) == 42) = false ∧ ((c.toNat : Int) == 63) = true) ∨ (decide ((128 : Int) ≤ (c.toNat : Int)) = false ∧ ((c.toNat : Int) == 42) = false ∧ ((c.toNat : Int) == 63) = false ∧ ((c.toNat : Int) == 92) = true) := by
  by_cases h1 : c.toNat < 128
  · by_cases h2 : c.toNat = 42
    · exact .inr (.inl ⟨decide_eq_false (by omega), beq_iff_eq.2 (by omega)⟩)
    · by_cases h3 : c.toNat = 63
      · exact .inr (.inr (.inl ⟨decide_eq_false (by omega), beq_eq_false_iff_ne.2 (by omega), beq_iff_eq.2 (by omega)⟩))
      · by_cases h4 : c.toNat = 92
        · exact .inr (.inr (.inr ⟨decide_eq_false (by omega), beq_eq_false_iff_ne.2 (by omega), beq_eq_false_iff_ne.2 (by omega), beq_iff_eq.2 (by omega)⟩))
        · exfalso
          have g2 : c ≠ 42 := fun e => h2 (by rw [e]; rfl)
          have g3 : c ≠ 63 := fun e => h3 (by rw [e]; rfl)
          have g4 : c ≠ 92 := fun e => h4 (by rw [e]; rfl)
          unfold okc at h
          rw [decide_eq_true h1] at h
          simp [g2, g3, g4] at h
  · exact .inl (decide_eq_true (by omega))
/-- what one round of the law sees -/
structure Round (comp : Int) (s key : ByteArray) (R : Option (List ByteArray)) (b : Bool) : Prop where
  has : Lib.contains (keyL comp s.data.toList) (keyL comp key.data.toList) = b
  is : R.isSome = b
  ahead : Lib.contains (keyL comp (s ++ key).data.toList) (keyL comp key.data.toList) = true
  out : ∀ out, R = some out → ∃ x y : ByteArray, out = [x, y] ∧ x.size + key.size + y.size = s.size ∧ x.size ≤ s.size ∧ (key.data.toList ≠ [] → Lib.contains (keyL comp x.data.toList) (keyL comp key.data.toList) = false)
theorem holds2 (comp : Int) (hc : comp ≠ 3) (s key : List UInt8) : holdsL comp 2 s key = Lib.contains (keyL comp s) (keyL comp key) := by
  show (comp != 3 && Lib.contains (keyL comp s) (keyL comp key)) = _
  rw [show (comp != 3) = true by rw [bne_iff_ne]; exact hc, Bool.true_and]
theorem round_of (comp : Int) (hc : comp ≠ 3) (s key : ByteArray) (h : ∀ c ∈ key.data.toList, okc c = true) : ∃ b, Round comp s key (globR comp (42 :: key.data.toList ++ [42]) s.data.toList) b := by
  obtain ⟨h1, h2, h3⟩ := pieces_law comp hc s.data.toList key.data.toList (fun c hx => (okc_t (h c hx)).1) (fun c hx => (okc_t (h c hx)).2)
  refine ⟨_, rfl, h1, by rw [ByteArray.data_append, Array.toList_append]; exact h2, fun out ho => ?_⟩
  obtain ⟨x, y, e1, e2, e3, e4⟩ := h3 out ho
  exact ⟨x, y, e1, by rw [size_l, size_l] at e2; exact e2, by rw [size_l] at e3; exact e3, e4⟩
set_option maxHeartbeats 4000000 in
set_option maxRecDepth 100000 in
theorem pieces_any (s key : ByteArray) (w : World) (h : Rd w) : Calls Tryd.prog 7 #[.string s, .string key] w fun e w' => e = .returned (.bool true) ∧ Below w.heap.size w w' := by
  have HS := Lib.hid (fun w' (hb : Below w.heap.size w w') => small_any w' (h.later hb))
  have tb := Below.refl w.heap.size w
  by_cases la : s.size ≤ 300
  · have q1 : decide ((300 : Int) < (s.size : Int)) = false := decide_eq_false (by omega)
    by_cases lb : key.size ≤ 20
    · have q2 : decide ((20 : Int) < (key.size : Int)) = false := decide_eq_false (by omega)
      have hpl : ((⟨#[42]⟩ : ByteArray) ++ key ++ ⟨#[42]⟩).data.toList = 42 :: key.data.toList ++ [42] := by rw [ByteArray.data_append, ByteArray.data_append, Array.toList_append, Array.toList_append]; rfl
      have hps : ((⟨#[42]⟩ : ByteArray) ++ key ++ ⟨#[42]⟩).size = key.size + 2 := by
        rw [← size_l, hpl, List.length_append, List.length_cons, size_l]; rfl
      have hsk : (s ++ key).size = s.size + key.size := ByteArray.size_append
      have h1 := fun (comp : Int) (hc : comp ≠ 3) w' (hb : Below w.heap.size w w') => (holds2 comp hc s.data.toList key.data.toList) ▸ holds_rd comp 2 s key w' (h.later hb) (by omega) (by omega)
      have h2 := fun (comp : Int) (hc : comp ≠ 3) w' (hb : Below w.heap.size w w') => (holds2 comp hc (s ++ key).data.toList key.data.toList) ▸ holds_rd comp 2 (s ++ key) key w' (h.later hb) (by omega) (by omega)
      have h3 := fun (x : ByteArray) (hx : x.size ≤ s.size) (comp : Int) (hc : comp ≠ 3) w' (hb : Below w.heap.size w w') => (holds2 comp hc x.data.toList key.data.toList) ▸ holds_rd comp 2 x key w' (h.later hb) (by omega) (by omega)
      have h4 := fun (comp : Int) w' (hb : Below w.heap.size w w') => glob_rd comp ((⟨#[42]⟩ : ByteArray) ++ key ++ ⟨#[42]⟩) s w' (h.later hb) (by omega) (by omega)
      rw [hpl] at h4
      have H1 := Lib.hid h1
      have H2 := Lib.hid h2
      have H3 := Lib.hid h3
      have H4 := Lib.hid h4
      have hps1 : ((⟨#[42]⟩ : ByteArray) ++ key).size = key.size + 1 := by rw [ByteArray.size_append]; show 1 + _ = _; omega
      have hsk2 : s.size + key.size ≤ 400 := by omega
      have hps2 : (((⟨#[42]⟩ : ByteArray) ++ key).size : Int) = key.size + 1 := by omega
      clear h1 h2 h3 h4 h hpl hps hps1 hsk hps2
      go_enter Tryd.func7, Tryd.ntmps7
      go_upto_block 0 with (go_at_call 8; (with_reducible refine (HS.out _ tb).mono ?_); rintro e w1 ⟨rfl, hb1⟩; have tb := tb.trans (hb1.mono tb.size))
      obtain ⟨wA, hwA⟩ : ∃ x, x = w1 := ⟨_, rfl⟩
      go_cut [6] (fun iv wx => wx = w1 ∧ (∀ c ∈ key.data.toList, okc c = true))
      case first =>
        go_wp2_with fail
        go_loopw [6] (fun iv wr => ∃ i : Nat, iv = .int .i64 i ∧ wr = w1 ∧ i ≤ key.size ∧ Hid (∀ j (h : j < key.size), j < i → okc key[j] = true)) (fun iv _ => key.size - (intOf iv).toNat)
        case atStart => exact ⟨0, by first | rfl | trivial, rfl, by omega, fun j h hj => by omega⟩
        case round =>
          obtain ⟨i, rfl, rfl, hi, hrel⟩ := hrel
          by_cases hlt : i < key.size
          · cases hok : okc key[i] with
            | true =>
              obtain ⟨a1, a2, a3, a4⟩ := okc_q hok
              have hd : Hid (∀ j (h : j < key.size), j < i + 1 → okc key[j] = true) := fun j h hj => by
                by_cases e : j = i
                · subst e; exact hok
                · exact hrel.out j h (by omega)
              clear hrel hok
              go_wp2
              go_roundw
              case rel => exact ⟨i + 1, by go_num, by first | rfl | trivial, by omega, hd⟩
              case measure => simp [intOf]; omega
            | false =>
              rcases okc_f hok with a1 | ⟨a1, a2⟩ | ⟨a1, a2, a3⟩ | ⟨a1, a2, a3, a4⟩
              all_goals
                clear hrel hok
                go_wp2
                go_ret
                exact ⟨rfl, tb⟩
          · have hall : Hid (∀ c ∈ key.data.toList, okc c = true) := fun c hc => by
              obtain ⟨j, hj, rfl⟩ := List.getElem_of_mem hc
              exact hrel.out j hj (by have : key.data.toList.length = key.size := rfl; omega)
            clear hrel
            go_wp2
            go_meet
            exact ⟨rfl, hall.out⟩
      case rest =>
        obtain ⟨rfl, hall⟩ := hcut
        have HALL := Lib.hid hall
        clear hall
        go_wp2
        go_loopw [7] (fun cv wr => ∃ c : Int, cv = .int .i64 c ∧ (c = 1 ∨ c = 2 ∨ c = 3) ∧ Below w.heap.size w wr) (fun cv _ => (3 - intOf cv).toNat)
        case atStart => exact ⟨1, by first | rfl | trivial, .inl rfl, tb⟩
        case round =>
          obtain ⟨c, rfl, hc, tb⟩ := hrel
          rcases hc with rfl | rfl | rfl
          · have hc0 := HALL.out
            obtain ⟨b, RD⟩ := round_of 1 (by decide) s key HALL.out
            have g4 := H4.out 1
            generalize globR 1 (42 :: key.data.toList ++ [42]) s.data.toList = R at RD g4
            have g1 := H1.out 1 (by decide)
            rw [RD.has] at g1
            have g2 := H2.out 1 (by decide)
            rw [RD.ahead] at g2
            have G1 := Lib.hid g1
            have G2 := Lib.hid g2
            cases b with
            | false =>
              have hR : R = none := by
                cases R with
                | none => rfl
                | some x => have := RD.is; cases this
              subst hR
              have G4 := Lib.hid g4
              clear g1 g2 g4 RD
              clear hc0
              go_upto_region 15 with (first
                | (go_at_call 21; (with_reducible refine (G1.out _ tb).mono ?_); rintro e w2 ⟨rfl, hb2⟩; have tb := tb.trans (hb2.mono tb.size))
                | (go_at_call 21; (with_reducible refine (G2.out _ tb).mono ?_); rintro e w2 ⟨rfl, hb2⟩; have tb := tb.trans (hb2.mono tb.size))
                | (go_at_call 19; (with_reducible refine (G4.out _ tb).mono ?_); rintro e w4 ⟨rfl, hb4⟩; have tb := tb.trans (hb4.mono tb.size)))
              go_region
              go_wp2
              go_roundw
              case rel => exact ⟨1 + 1, by first | rfl | trivial, by decide, by first | exact tb | exact tb.drew⟩
              case measure => simp [intOf]
            | true =>
              obtain ⟨out, hR⟩ : ∃ out, R = some out := by
                cases R with
                | none => have := RD.is; cases this
                | some x => exact ⟨x, rfl⟩
              obtain ⟨x, y, rfl, hxy, hxs, hd⟩ := RD.out out hR
              subst hR
              have g3 := H3.out x hxs 1 (by decide)
              obtain ⟨d, hdd⟩ : ∃ d, Lib.contains (keyL 1 x.data.toList) (keyL 1 key.data.toList) = d := ⟨_, rfl⟩
              rw [hdd] at g3 hd
              have G3 := Lib.hid g3
              have G4 := Lib.hid g4
              have hxy2 : ((x.size : Int) + (key.size : Int) + (y.size : Int) != (s.size : Int)) = false := by
                have : (x.size : Int) + (key.size : Int) + (y.size : Int) = (s.size : Int) := by omega
                rw [this]; simp
              have hw1 : IntKind.i64.wrap ((x.size : Int) + (key.size : Int)) = (x.size : Int) + (key.size : Int) := w64 rfl (by omega) (by omega)
              have hw2 : IntKind.i64.wrap ((x.size : Int) + (key.size : Int) + (y.size : Int)) = (x.size : Int) + (key.size : Int) + (y.size : Int) := w64 rfl (by omega) (by omega)
              have hkd : (d = true ∧ (key.toList == []) = true) ∨ (d = false ∧ (key.toList == []) = false) := by
                rw [Lib.toList_data]
                by_cases he : key.data.toList = []
                · refine .inl ⟨?_, by rw [he]; rfl⟩
                  rw [← hdd, he]
                  have : keyL 1 [] = [] := by decide +kernel
                  rw [this]
                  exact (contains_iff _ _).2 ⟨0, by omega, List.nil_prefix⟩
                · exact .inr ⟨hd he, beq_eq_false_iff_ne.2 he⟩
              clear g1 g2 g3 g4 RD hd hdd hxy hxs
              clear hc0
              go_upto_region 15 with (first
                | (go_at_call 21; (with_reducible refine (G1.out _ tb).mono ?_); rintro e w2 ⟨rfl, hb2⟩; have tb := tb.trans (hb2.mono tb.size))
                | (go_at_call 21; (with_reducible refine (G2.out _ tb).mono ?_); rintro e w2 ⟨rfl, hb2⟩; have tb := tb.trans (hb2.mono tb.size); have hs4 := hs4.later hb2)
                | (go_at_call 19; (with_reducible refine (G4.out _ tb).mono ?_); rintro e w4 ⟨v4, rfl, hown4, hb4⟩; have tb := tb.trans (hb4.mono tb.size); have hs4 := ownsS.seesS hown4; obtain ⟨p4, c4, hv4, -, -⟩ := ownsS.seesS hown4; subst hv4; clear hown4))
              obtain ⟨p5, c5, hv5, hc5, hs5⟩ := hs4
              injection hv5 with hv51 _ hv53
              subst hv51 hv53
              rcases hs5 with hs5 | ⟨gg, oo, hp5, hs5⟩
              · cases hs5
              · have k0 := hs5 0 (Nat.zero_lt_succ 1)
                have k1 := hs5 1 (Nat.lt_succ_self 1)
                subst hp5
                rw [Nat.add_zero] at k0
                have k0 : World.cell? _ ⟨gg, oo, none⟩ = some (.string x) := k0
                have k1 : World.cell? _ ⟨gg, oo + 1, none⟩ = some (.string y) := k1
                clear hs5
                rcases hkd with ⟨rfl, hke⟩ | ⟨rfl, hke⟩
                all_goals
                  go_region
                  go_wp2_with (go_at_call 21; (with_reducible refine (G3.out _ (by first | exact tb | exact tb.drew)).mono ?_); rintro e w2 ⟨rfl, hb2⟩; have tb := (show Below _ _ _ from (by first | exact tb.drew | exact tb)).trans (hb2.mono tb.size))
                  go_roundw
                  case rel => exact ⟨1 + 1, by first | rfl | trivial, by decide, by first | exact tb | exact tb.drew⟩
                  case measure => simp [intOf]
          · have hc0 := HALL.out
            obtain ⟨b, RD⟩ := round_of 2 (by decide) s key HALL.out
            have g4 := H4.out 2
            generalize globR 2 (42 :: key.data.toList ++ [42]) s.data.toList = R at RD g4
            have g1 := H1.out 2 (by decide)
            rw [RD.has] at g1
            have g2 := H2.out 2 (by decide)
            rw [RD.ahead] at g2
            have G1 := Lib.hid g1
            have G2 := Lib.hid g2
            cases b with
            | false =>
              have hR : R = none := by
                cases R with
                | none => rfl
                | some x => have := RD.is; cases this
              subst hR
              have G4 := Lib.hid g4
              clear g1 g2 g4 RD
              clear hc0
              go_upto_region 15 with (first
                | (go_at_call 21; (with_reducible refine (G1.out _ tb).mono ?_); rintro e w2 ⟨rfl, hb2⟩; have tb := tb.trans (hb2.mono tb.size))
                | (go_at_call 21; (with_reducible refine (G2.out _ tb).mono ?_); rintro e w2 ⟨rfl, hb2⟩; have tb := tb.trans (hb2.mono tb.size))
                | (go_at_call 19; (with_reducible refine (G4.out _ tb).mono ?_); rintro e w4 ⟨rfl, hb4⟩; have tb := tb.trans (hb4.mono tb.size)))
              go_region
              go_wp2
              go_roundw
              case rel => exact ⟨2 + 1, by first | rfl | trivial, by decide, by first | exact tb | exact tb.drew⟩
              case measure => simp [intOf]
            | true =>
              obtain ⟨out, hR⟩ : ∃ out, R = some out := by
                cases R with
                | none => have := RD.is; cases this
                | some x => exact ⟨x, rfl⟩
              obtain ⟨x, y, rfl, hxy, hxs, hd⟩ := RD.out out hR
              subst hR
              have g3 := H3.out x hxs 2 (by decide)
              obtain ⟨d, hdd⟩ : ∃ d, Lib.contains (keyL 2 x.data.toList) (keyL 2 key.data.toList) = d := ⟨_, rfl⟩
              rw [hdd] at g3 hd
              have G3 := Lib.hid g3
              have G4 := Lib.hid g4
              have hxy2 : ((x.size : Int) + (key.size : Int) + (y.size : Int) != (s.size : Int)) = false := by
                have : (x.size : Int) + (key.size : Int) + (y.size : Int) = (s.size : Int) := by omega
                rw [this]; simp
              have hw1 : IntKind.i64.wrap ((x.size : Int) + (key.size : Int)) = (x.size : Int) + (key.size : Int) := w64 rfl (by omega) (by omega)
              have hw2 : IntKind.i64.wrap ((x.size : Int) + (key.size : Int) + (y.size : Int)) = (x.size : Int) + (key.size : Int) + (y.size : Int) := w64 rfl (by omega) (by omega)
              have hkd : (d = true ∧ (key.toList == []) = true) ∨ (d = false ∧ (key.toList == []) = false) := by
                rw [Lib.toList_data]
                by_cases he : key.data.toList = []
                · refine .inl ⟨?_, by rw [he]; rfl⟩
                  rw [← hdd, he]
                  have : keyL 2 [] = [] := by decide +kernel
                  rw [this]
                  exact (contains_iff _ _).2 ⟨0, by omega, List.nil_prefix⟩
                · exact .inr ⟨hd he, beq_eq_false_iff_ne.2 he⟩
              clear g1 g2 g3 g4 RD hd hdd hxy hxs
              clear hc0
              go_upto_region 15 with (first
                | (go_at_call 21; (with_reducible refine (G1.out _ tb).mono ?_); rintro e w2 ⟨rfl, hb2⟩; have tb := tb.trans (hb2.mono tb.size))
                | (go_at_call 21; (with_reducible refine (G2.out _ tb).mono ?_); rintro e w2 ⟨rfl, hb2⟩; have tb := tb.trans (hb2.mono tb.size); have hs4 := hs4.later hb2)
                | (go_at_call 19; (with_reducible refine (G4.out _ tb).mono ?_); rintro e w4 ⟨v4, rfl, hown4, hb4⟩; have tb := tb.trans (hb4.mono tb.size); have hs4 := ownsS.seesS hown4; obtain ⟨p4, c4, hv4, -, -⟩ := ownsS.seesS hown4; subst hv4; clear hown4))
              obtain ⟨p5, c5, hv5, hc5, hs5⟩ := hs4
              injection hv5 with hv51 _ hv53
              subst hv51 hv53
              rcases hs5 with hs5 | ⟨gg, oo, hp5, hs5⟩
              · cases hs5
              · have k0 := hs5 0 (Nat.zero_lt_succ 1)
                have k1 := hs5 1 (Nat.lt_succ_self 1)
                subst hp5
                rw [Nat.add_zero] at k0
                have k0 : World.cell? _ ⟨gg, oo, none⟩ = some (.string x) := k0
                have k1 : World.cell? _ ⟨gg, oo + 1, none⟩ = some (.string y) := k1
                clear hs5
                rcases hkd with ⟨rfl, hke⟩ | ⟨rfl, hke⟩
                all_goals
                  go_region
                  go_wp2_with (go_at_call 21; (with_reducible refine (G3.out _ (by first | exact tb | exact tb.drew)).mono ?_); rintro e w2 ⟨rfl, hb2⟩; have tb := (show Below _ _ _ from (by first | exact tb.drew | exact tb)).trans (hb2.mono tb.size))
                  go_roundw
                  case rel => exact ⟨2 + 1, by first | rfl | trivial, by decide, by first | exact tb | exact tb.drew⟩
                  case measure => simp [intOf]
          · go_wp2
            go_ret
            exact ⟨rfl, tb⟩
    · have q2 : decide ((20 : Int) < (key.size : Int)) = true := decide_eq_true (by omega)
      clear h
      go_enter Tryd.func7, Tryd.ntmps7
      go_wp2_with (go_at_call 8; (with_reducible refine (HS.out _ tb).mono ?_); rintro e w1 ⟨rfl, hb1⟩; have tb := tb.trans (hb1.mono tb.size))
      go_ret
      exact ⟨rfl, tb⟩
  · have q1 : decide ((300 : Int) < (s.size : Int)) = true := decide_eq_true (by omega)
    clear h
    go_enter Tryd.func7, Tryd.ntmps7
    go_wp2_with (go_at_call 8; (with_reducible refine (HS.out _ tb).mono ?_); rintro e w1 ⟨rfl, hb1⟩; have tb := tb.trans (hb1.mono tb.size))
    go_ret
    exact ⟨rfl, tb⟩
end Go.Proofs.YtlbnhkojfefccaaDoor
