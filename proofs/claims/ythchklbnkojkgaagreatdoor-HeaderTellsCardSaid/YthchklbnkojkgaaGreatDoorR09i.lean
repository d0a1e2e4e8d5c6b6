/- Walks: reference 09: Pieces, Put. -/
import Derived.Test.YthchklbnkojkgaaGreatDoorR09e
import Derived.Test.YthchklbnkojkgaaGreatDoorR09f
import Derived.Test.YthchklbnkojkgaaGreatDoorHdG
import Derived.Test.YthchklbnkojkgaaGreatDoorSame9
namespace Go.Proofs.YthchklbnkojkgaaGreatDoor
open Go.RowKit Pk Hd

def pcG (cur : List UInt8) (c : UInt8) : List UInt8 → List (List UInt8)
  | [] => [cur]
  | d :: r => if (blk d && !blk c) = true then cur :: pcG [d] d r else pcG (cur ++ [d]) d r
def piecesG : List UInt8 → List (List UInt8)
  | [] => []
  | c :: r => pcG [c] c r
theorem pcG_eq : ∀ (r cur : List UInt8) (c : UInt8), pcG cur c r = (cur ++ r.take (pieceF c r)) :: piecesG (r.drop (pieceF c r))
  | [], cur, c => by simp [pcG, pieceF, piecesG]
  | d :: r, cur, c => by
    by_cases hb : (blk d && !blk c) = true
    · have e : pieceF c (d :: r) = 0 := by unfold pieceF; rw [if_pos hb]
      rw [e, pcG, if_pos hb, List.take_zero, List.append_nil, List.drop_zero]; rfl
    · have e : pieceF c (d :: r) = pieceF d r + 1 := by
        conv => lhs; unfold pieceF
        rw [if_neg hb]
      rw [e, pcG, if_neg hb, pcG_eq r, List.take_succ_cons, List.drop_succ_cons, List.append_assoc]; rfl
theorem piecesG_ne {v : List UInt8} (h : v ≠ []) : piecesG v = v.take (pieceN v) :: piecesG (v.drop (pieceN v)) := by
  cases v with
  | nil => exact absurd rfl h
  | cons c r =>
    have e : pieceN (c :: r) = pieceF c r + 1 := rfl
    rw [e, List.take_succ_cons, List.drop_succ_cons]
    exact pcG_eq r [c] c
def putP (n : Nat) (b : Bool) : List (List UInt8) → List UInt8
  | [] => []
  | p :: ps => if b = false ∧ 78 < n + p.length then [13, 10] ++ p ++ putP p.length false ps else p ++ putP (n + p.length) false ps
theorem put_pieces : ∀ (f n : Nat) (b : Bool) (v : List UInt8), v.length ≤ f → putF f n b v = putP n b (piecesG v)
  | f, n, b, v, hf => by
    by_cases hne : v = []
    · subst hne; rw [putF_nil]; rfl
    · obtain ⟨p1, p2⟩ := pieceN_rng hne
      cases f with
      | zero => exact absurd (List.eq_nil_of_length_eq_zero (by omega)) hne
      | succ f =>
        have hl : (v.drop (pieceN v)).length ≤ f := by rw [List.length_drop]; omega
        have hlen : (v.take (pieceN v)).length = pieceN v := by rw [List.length_take, Nat.min_eq_left p2]
        rw [putF_ne hne, piecesG_ne hne, putP, hlen, put_pieces f _ _ _ hl, put_pieces f _ _ _ hl]
/-- what the loop of Pieces keeps -/
def PcAt (s : ByteArray) (f k : Nat) (acc : List ByteArray) (X : List (List UInt8)) : Prop := ∃ h : k - 1 < s.size, acc.map (·.data.toList) ++ pcG (s.extract f k).data.toList (s[k - 1]'h) (tl s k) = X
theorem pc_start {s : ByteArray} (h : 0 < s.size) : PcAt s 0 1 [] (piecesG s.data.toList) := ⟨h, by
  have e : (s.extract 0 1).data.toList = [s[0]] := by
    have := ext_snoc s (f := 0) (k := 0) (Nat.le_refl _) h
    have e0 : (s.extract 0 0).data.toList = [] := List.eq_nil_of_length_eq_zero (by rw [dataL, ByteArray.size_extract]; omega)
    rw [e0] at this; exact this
  rw [e, data_cons s h]; rfl⟩
theorem pc_keep {s : ByteArray} {f k : Nat} {acc : List ByteArray} {X : List (List UInt8)} (h : PcAt s f k acc X) (hk : k < s.size) (hk0 : k - 1 < s.size) (hf : f ≤ k) (hb : (blk s[k] && !blk (s[k - 1]'hk0)) = false) : PcAt s f (k + 1) acc X := by
  obtain ⟨h1, e⟩ := h
  refine ⟨hk, ?_⟩
  rw [tl_cons s k hk, pcG, if_neg (by rw [hb]; decide), ← ext_snoc s hf hk] at e
  exact e
theorem pc_cut {s : ByteArray} {f k : Nat} {acc : List ByteArray} {X : List (List UInt8)} (h : PcAt s f k acc X) (hk : k < s.size) (hk0 : k - 1 < s.size) (hb : (blk s[k] && !blk (s[k - 1]'hk0)) = true) : PcAt s k (k + 1) (acc ++ [s.extract f k]) X := by
  obtain ⟨h1, e⟩ := h
  refine ⟨hk, ?_⟩
  rw [tl_cons s k hk, pcG, if_pos hb] at e
  have e0 : (s.extract k (k + 1)).data.toList = [s[k]] := by
    have := ext_snoc s (f := k) (k := k) (Nat.le_refl _) hk
    have e0 : (s.extract k k).data.toList = [] := List.eq_nil_of_length_eq_zero (by rw [dataL, ByteArray.size_extract]; omega)
    rw [e0] at this; exact this
  rw [e0, List.map_append, List.append_assoc]
  exact e
theorem pc_end {s : ByteArray} {f k : Nat} {acc : List ByteArray} {X : List (List UInt8)} (h : PcAt s f k acc X) (hk : k = s.size) : (acc ++ [s.extract f s.size]).map (·.data.toList) = X := by
  obtain ⟨h1, e⟩ := h
  subst hk
  rw [tl_end s _ (Nat.le_refl _), pcG] at e
  rw [List.map_append]; exact e
set_option maxHeartbeats 4000000 in
set_option maxRecDepth 100000 in
theorem rpieces_any (s : ByteArray) (w : World) (hs : s.size ≤ 1000000) :
    Calls Tryz.prog 16 #[.string s] w fun e w' => ∃ v acc, e = .returned v ∧ ownsS w' w.heap.size 9 v acc ∧ acc.map (·.data.toList) = piecesG s.data.toList ∧ acc.length ≤ s.size ∧ Below w.heap.size w w' := by
  have hBl := Lib.hid rblank_any
  by_cases h0 : 0 < s.size
  · obtain ⟨X, hX⟩ : ∃ X, X = piecesG s.data.toList := ⟨_, rfl⟩
    have hst : Hid (PcAt s 0 1 [] X) := by rw [hX]; exact pc_start h0
    rw [← hX]
    clear hX
    have y0 : (0 : Int) < (s.size : Int) := by omega
    go_enter Tryz.func16, Tryz.ntmps16
    go_wp2
    go_loopw [3, 4, 5] (fun v fv iv wr => ∃ (f k : Nat) (acc : List ByteArray), fv = .int .i64 f ∧ iv = .int .i64 k ∧ ownsS wr w.heap.size 9 v acc ∧ Below w.heap.size w wr ∧ f < k ∧ k ≤ s.size ∧ acc.length ≤ f ∧ Hid (PcAt s f k acc X)) (fun _ _ iv _ => s.size - (intOf iv).toNat)
    case atStart => exact ⟨0, 1, [], by first | rfl | trivial, by first | rfl | trivial, ownsS.nil _ _ _, Below.refl _ _, by omega, by omega, by simp, hst⟩
    case round =>
      clear hst
      obtain ⟨f, k, acc, rfl, rfl, hown, hbel, hfk, hk, hal, hrel⟩ := hrel
      have hsz := hbel.size
      have z1 : (0 : Int) ≤ (f : Int) := by omega
      have z2 : (f : Int) ≤ (k : Int) := by omega
      have z3 : (k : Int) ≤ (s.size : Int) := by omega
      have z4 : (f : Int) ≤ (s.size : Int) := by omega
      by_cases hlt : k < s.size
      · have hk0 : k - 1 < s.size := by omega
        have h1 := fun w => hBl.out s[k] w
        have h2 := fun w => hBl.out s[k - 1] w
        cases b1 : blk s[k] with
        | false =>
          have hd := Lib.hid (pc_keep hrel.out hlt hk0 (by omega) (by rw [b1]; rfl))
          rw [b1] at h1
          have H1 := Lib.hid h1
          have H2 := trivial
          clear h1 h2 b1 hrel
          go_wp2_with (first
            | (go_at_call 19; (with_reducible refine (H1.out _).mono ?_); rintro e w1 ⟨rfl, rfl⟩)
            | (go_at_call 19; (with_reducible refine (H2.out _).mono ?_); rintro e w1 ⟨rfl, rfl⟩))
          go_roundw
          case rel => exact ⟨f, k + 1, acc, rfl, by go_num, hown, hbel, by omega, by omega, hal, hd⟩
          case measure => simp [intOf]; omega
        | true =>
          cases b2 : blk s[k - 1] with
          | true =>
            have hd := Lib.hid (pc_keep hrel.out hlt hk0 (by omega) (by rw [b1, b2]; rfl))
            rw [b1] at h1
            rw [b2] at h2
            have H1 := Lib.hid h1
            have H2 := Lib.hid h2
            clear h1 h2 b1 b2 hrel
            go_wp2_with (first
              | (go_at_call 19; (with_reducible refine (H1.out _).mono ?_); rintro e w1 ⟨rfl, rfl⟩)
              | (go_at_call 19; (with_reducible refine (H2.out _).mono ?_); rintro e w1 ⟨rfl, rfl⟩))
            go_roundw
            case rel => exact ⟨f, k + 1, acc, rfl, by go_num, hown, hbel, by omega, by omega, hal, hd⟩
            case measure => simp [intOf]; omega
          | false =>
            have hd := Lib.hid (pc_cut hrel.out hlt hk0 (by rw [b1, b2]; rfl))
            rw [b1] at h1
            rw [b2] at h2
            have H1 := Lib.hid h1
            have H2 := Lib.hid h2
            clear h1 h2 b1 b2 hrel
            go_wp2_with (first
              | (go_at_call 19; (with_reducible refine (H1.out _).mono ?_); rintro e w1 ⟨rfl, rfl⟩)
              | (go_at_call 19; (with_reducible refine (H2.out _).mono ?_); rintro e w1 ⟨rfl, rfl⟩)
              | (at_builtin; refine append_str _ rfl (.tmp 24) (.tmp 29) ssl9 rfl w.heap.size _ _ rfl (hown.alloc _) ⟨_, 0, none⟩ 1 1 [_] rfl rfl (cells_new _ _ _) (by first | omega | (simp; done) | (simp; omega)) (by first | omega | (simp; done) | (simp; omega)) ?_; intro v1 w1 hown1 hg1; have hb1 := Below_grownS (hbel.alloc hsz _) (hown.alloc _) hg1 (by first | omega | (simp; done) | (simp; omega)); have hz1 := hb1.size; clear hg1))
            go_roundw
            case rel => exact ⟨k, k + 1, _, by first | rfl | trivial, by go_num, hown1, hb1, by omega, by omega, by rw [List.length_append, List.length_singleton]; omega, hd⟩
            case measure => simp [intOf]; omega
      · have hX := pc_end hrel.out (by omega)
        clear hrel
        go_wp2_with (at_builtin; refine append_str _ rfl (.tmp 35) (.tmp 39) ssl9 rfl w.heap.size _ _ rfl (hown.alloc _) ⟨_, 0, none⟩ 1 1 [_] rfl rfl (cells_new _ _ _) (by first | omega | (simp; done) | (simp; omega)) (by first | omega | (simp; done) | (simp; omega)) ?_; intro v1 w1 hown1 hg1; have hb1 := Below_grownS (hbel.alloc hsz _) (hown.alloc _) hg1 (by first | omega | (simp; done) | (simp; omega)); have hz1 := hb1.size; clear hg1)
        go_ret
        exact ⟨_, _, rfl, hown1, hX, by rw [List.length_append, List.length_singleton]; omega, hb1⟩
  · have hn : s.data.toList = [] := List.eq_nil_of_length_eq_zero (by rw [dataL]; omega)
    have hX : piecesG s.data.toList = [] := by rw [hn]; rfl
    have hz : s.size = 0 := by omega
    rw [hX]
    clear hn hX
    go_enter Tryz.func16, Tryz.ntmps16
    go_wp2
    go_loopw [3, 5] (fun lv iv wr => lv = .slice none 0 0 ∧ iv = .int .i64 1 ∧ wr = w) (fun _ iv _ => 0)
    case atStart => exact ⟨rfl, by first | rfl | trivial, rfl⟩
    case round =>
      obtain ⟨rfl, rfl, rfl⟩ := hrel
      go_wp2
      go_ret
      exact ⟨_, [], rfl, ownsS.nil _ _ _, rfl, by simp, Below.refl _ _⟩
def IsI (v : Value) (n : Nat) : Prop := v = .int .i64 n
/-- what the loop of Put keeps -/
def PutR (ps : List ByteArray) (O : ByteArray) (i n : Nat) (X : List UInt8) : Prop := O.data.toList ++ putP n (decide (i = 0)) ((ps.drop i).map (·.data.toList)) = X
theorem putR_len {ps : List ByteArray} {O : ByteArray} {i n : Nat} {X : List UInt8} (h : PutR ps O i n X) : O.size ≤ X.length := by
  rw [← h, List.length_append, dataL]; omega
theorem putR_step {ps : List ByteArray} {O : ByteArray} {i n : Nat} {X : List UInt8} (h : PutR ps O i n X) (hi : i < ps.length) :
    ((0 < i ∧ 78 < n + ps[i].size) → PutR ps (O ++ ⟨#[13, 10]⟩ ++ ps[i]) (i + 1) ps[i].size X) ∧ (¬ (0 < i ∧ 78 < n + ps[i].size) → PutR ps (O ++ ps[i]) (i + 1) (n + ps[i].size) X) := by
  unfold PutR at *
  have hz : decide (i + 1 = 0) = false := decide_eq_false (by omega)
  rw [List.drop_eq_getElem_cons hi, List.map_cons, putP, dataL] at h
  rw [hz]
  constructor
  · intro hc
    rw [if_pos ⟨decide_eq_false (by omega), hc.2⟩] at h
    rw [← h]
    simp only [ByteArray.data_append, Array.toList_append]
    simp
  · intro hc
    rw [if_neg (fun ⟨h1, h2⟩ => hc ⟨by have := of_decide_eq_false h1; omega, h2⟩)] at h
    rw [← h]
    simp only [ByteArray.data_append, Array.toList_append]
    simp
theorem putR_end {ps : List ByteArray} {O : ByteArray} {i n : Nat} {X : List UInt8} (h : PutR ps O i n X) (hi : ¬ i < ps.length) : O.data.toList = X := by
  unfold PutR at h
  rw [List.drop_eq_nil_of_le (by omega)] at h
  simpa [putP] using h
set_option maxHeartbeats 8000000 in
set_option maxRecDepth 100000 in
theorem rput_any (s v : ByteArray) (w : World) (hs : s.size ≤ 100000) (hv : v.size ≤ 100000) :
    Calls Tryz.prog 31 #[.string s, .string v] w fun e w' => e = .returned (.string (toB (putL s.data.toList v.data.toList))) ∧ Below w.heap.size w w' := by
  have hR := fun w => rright_any s w (by omega)
  cases hr : rightB s.data.toList with
  | false =>
    have hP : toB (putL s.data.toList v.data.toList) = ⟨#[]⟩ := by unfold putL; rw [if_neg (by rw [hr]; decide)]; rfl
    rw [hP]
    rw [hr] at hR
    have HR := Lib.hid hR
    clear hR hr hP
    go_enter Tryz.func31, Tryz.ntmps31
    go_wp2_with (go_at_call 32; (with_reducible refine (HR.out _).mono ?_); rintro e w1 ⟨rfl, rfl⟩)
    go_ret
    exact ⟨rfl, Below.refl _ _⟩
  | true =>
    have hP : putL s.data.toList v.data.toList = (s.data.toList ++ [58, 32]) ++ putP (s.size + 2) true (piecesG (cleanL v.data.toList)) ++ [13, 10] := by
      unfold putL; rw [if_pos hr, put_pieces _ _ _ _ (Nat.le_refl _), dataL]
    have hple := put_le s.data.toList v.data.toList
    rw [dataL, dataL] at hple
    rw [hr] at hR
    have HR := Lib.hid hR
    have hcl := clean_le v.data.toList
    rw [dataL] at hcl
    have hC := fun w => rclean_any v w (by omega)
    obtain ⟨V, hVe, hVd, hVs⟩ := arrE (cleanL v.data.toList)
    have hV2 : toB (cleanL v.data.toList) = V := hVe.symm
    rw [hV2] at hC
    rw [← hVd] at hP
    have hPc := fun w => rpieces_any V w (by omega)
    have HC := Lib.hid hC
    have HPc := Lib.hid hPc
    have hVz : V.size ≤ 100000 := by omega
    have g1 : (s ++ ⟨#[58, 32]⟩ : ByteArray).size = s.size + 2 := app_size _ _
    have g2 : (s ++ ⟨#[58, 32]⟩ : ByteArray).data.toList = s.data.toList ++ [58, 32] := by simp [ByteArray.data_append, Array.toList_append]
    rw [← g2] at hP
    generalize hq : (s ++ ⟨#[58, 32]⟩ : ByteArray) = Q at *
    have hPx : ∃ X, X = Q.data.toList ++ putP (s.size + 2) true (piecesG V.data.toList) := ⟨_, rfl⟩
    obtain ⟨X, hX⟩ := hPx
    rw [← hX] at hP
    rw [hP, List.length_append] at hple
    rw [hP]
    have tb := Below.refl w.heap.size w
    clear hR hr hP hC hPc hVe hVd hVs hV2 g2 hcl
    go_enter Tryz.func31, Tryz.ntmps31
    go_wp2_with (first
      | (go_at_call 32; (with_reducible refine (HR.out _).mono ?_); rintro e w1 ⟨rfl, rfl⟩)
      | (go_at_call 18; (with_reducible refine (HC.out _).mono ?_); rintro e w1 ⟨rfl, hb1⟩; have tb := tb.trans hb1)
      | (go_at_call 16; (with_reducible refine (HPc.out _).mono ?_); rintro e w2 ⟨v2, ps, rfl, hown2, hps, hpl, hb2⟩; have tb := tb.trans (hb2.mono tb.size); obtain ⟨p2, c2, rfl⟩ := own_shapeR hown2))
    have hst : Hid (PutR ps Q 0 (s.size + 2) X) := by
      show PutR ps Q 0 (s.size + 2) X
      unfold PutR
      rw [List.drop_zero, hps, hX]; rfl
    clear hps hX
    go_loopw [6, 7, 9] (fun ov nv iv wr => ∃ (O : ByteArray) (n i : Nat), ov = .string O ∧ IsI nv n ∧ iv = .int .i64 i ∧ i ≤ ps.length ∧ n ≤ O.size ∧ wr = w2 ∧ Hid (PutR ps O i n X)) (fun _ _ iv _ => ps.length - (intOf iv).toNat)
    case atStart => exact ⟨Q, s.size + 2, 0, by first | rfl | trivial, by unfold IsI; first | rfl | go_num, by first | rfl | trivial, by omega, by omega, by first | rfl | trivial, hst⟩
    case round =>
      clear hst
      obtain ⟨O, n, i, rfl, hnv, rfl, hi, hn, rfl, hrel⟩ := hrel
      unfold IsI at hnv
      subst hnv
      have hOl := putR_len hrel.out
      by_cases hlt : i < ps.length
      · obtain ⟨g, cc, hv1, -, hcc1, -, hcell⟩ := hown2.form.resolve_left (fun h => by rw [h.2] at hlt; simp at hlt)
        injection hv1 with hv1 _ hv2
        subst hv1 hv2
        have c0 := hcell i hlt
        obtain ⟨d1, d2⟩ := putR_step hrel.out hlt
        have z0 : (0 : Int) ≤ (i : Int) := by omega
        have z1 : (i : Int) < (ps.length : Int) := by omega
        generalize ps[i] = p at c0 d1 d2
        by_cases hc : 0 < i ∧ 78 < n + p.size
        · have hd := Lib.hid (d1 hc)
          obtain ⟨hc1, hc2⟩ := hc
          have hl := putR_len hd.out
          have g3 : (O ++ ⟨#[13, 10]⟩ : ByteArray).size = O.size + 2 := app_size _ _
          generalize hq3 : (O ++ ⟨#[13, 10]⟩ : ByteArray) = Q3 at *
          have g4 : (Q3 ++ p : ByteArray).size = Q3.size + p.size := app_size _ _
          generalize hq4 : (Q3 ++ p : ByteArray) = Q4 at *
          have y1 : decide ((0 : Int) < (i : Int)) = true := decide_eq_true (by omega)
          have y2 : decide ((78 : Int) < (n : Int) + (p.size : Int)) = true := decide_eq_true (by omega)
          clear d1 d2 hrel hcell
          go_wp2
          go_roundw
          case rel => exact ⟨Q4, p.size, i + 1, by first | rfl | trivial, by unfold IsI; go_num, by go_num, by omega, by omega, by first | rfl | trivial, hd⟩
          case measure => simp [intOf]; omega
        · have hd := Lib.hid (d2 hc)
          have hl := putR_len hd.out
          have g4 : (O ++ p : ByteArray).size = O.size + p.size := app_size _ _
          generalize hq4 : (O ++ p : ByteArray) = Q4 at *
          clear d1 d2 hrel hcell
          by_cases hi0 : 0 < i
          · have y1 : decide ((0 : Int) < (i : Int)) = true := decide_eq_true (by omega)
            have y2 : decide ((78 : Int) < (n : Int) + (p.size : Int)) = false := decide_eq_false (by omega)
            go_wp2
            go_roundw
            case rel => exact ⟨Q4, n + p.size, i + 1, by first | rfl | trivial, by unfold IsI; go_num, by go_num, by omega, by omega, by first | rfl | trivial, hd⟩
            case measure => simp [intOf]; omega
          · have y1 : decide ((0 : Int) < (i : Int)) = false := decide_eq_false (by omega)
            go_wp2
            go_roundw
            case rel => exact ⟨Q4, n + p.size, i + 1, by first | rfl | trivial, by unfold IsI; go_num, by go_num, by omega, by omega, by first | rfl | trivial, hd⟩
            case measure => simp [intOf]; omega
      · have hX := putR_end hrel.out hlt
        have g3 : (O ++ ⟨#[13, 10]⟩ : ByteArray).size = O.size + 2 := app_size _ _
        have g4 : toB (X ++ [13, 10]) = (O ++ ⟨#[13, 10]⟩ : ByteArray) := by
          rw [← hX, ← toB_back (O ++ ⟨#[13, 10]⟩ : ByteArray)]
          simp [ByteArray.data_append, Array.toList_append]
        generalize hq3 : (O ++ ⟨#[13, 10]⟩ : ByteArray) = Q3 at *
        clear hrel hX
        go_wp2
        go_ret
        exact ⟨by rw [g4]; rfl, tb⟩
end Go.Proofs.YthchklbnkojkgaaGreatDoor
