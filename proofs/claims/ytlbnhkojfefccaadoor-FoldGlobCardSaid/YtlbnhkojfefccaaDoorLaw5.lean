/- Walks: chapter 05's laws: the fixed examples. -/
import Derived.Test.YtlbnhkojfefccaaDoorFdW
namespace Go.Proofs.YtlbnhkojfefccaaDoor
open Go.RowKit Pk U8 Su Fo

theorem sameT_refl (va vb : Value) (a : List ByteArray) (w : World) (hA : seesS w va a) (hB : seesS w vb a) (la : a.length ≤ 1000000) :
    Calls Tryd.prog 9 #[va, vb] w fun e w' => e = .returned (.bool true) ∧ Below w.heap.size w w' := by
  have h := sameT_any va vb a a w hA hB la la
  have e : eqT a a = true := decide_eq_true rfl
  rwa [e] at h
theorem lit_sees (w : World) (xs : List ByteArray) (t : TypeId) (B c : Nat) (cs : Array Value) (hB : B = w.heap.size) (hcs : cs = (xs.map fun x => Value.string x).toArray) (n : Nat) (hn : n = xs.length) (hc : n ≤ c) :
    seesS (w.alloc (.cells cs t)) (.slice (some ⟨B, 0, none⟩) n c) xs := by
  subst hB hcs hn
  refine ⟨_, c, rfl, hc, .inr ⟨_, 0, rfl, fun j hj => ?_⟩⟩
  have := cells_new w (xs.map fun x => Value.string x) t j (.string xs[j]) (by rw [List.getElem?_map, List.getElem?_eq_getElem hj]; rfl)
  rwa [Addr.add_lit] at this
theorem one_alloc (w : World) (o : Obj) : Below w.heap.size w (w.alloc o) := (Below.refl _ _).alloc (Nat.le_refl _) _
theorem two_alloc (w : World) (o p : Obj) : Below w.heap.size w ((w.alloc o).alloc p) := (one_alloc w o).alloc (by simp) _
set_option maxHeartbeats 4000000 in
set_option maxRecDepth 100000 in
theorem small_any (w : World) (h : Rd w) : Calls Tryd.prog 8 #[] w fun e w' => e = .returned (.bool true) ∧ Below w.heap.size w w' := by
  have g1 : globR 1 (⟨#[42, 66, 63]⟩ : ByteArray).data.toList (⟨#[97, 98, 99, 98, 100]⟩ : ByteArray).data.toList = some [⟨#[97, 98, 99]⟩, ⟨#[100]⟩] := by decide +kernel
  have g2 : globR 2 (⟨#[42, 66, 63]⟩ : ByteArray).data.toList (⟨#[97, 98, 99, 98, 100]⟩ : ByteArray).data.toList = none := by decide +kernel
  have g3 : globR 2 (⟨#[97, 92, 42, 63, 42]⟩ : ByteArray).data.toList (⟨#[97, 42, 120, 121, 122]⟩ : ByteArray).data.toList = some [⟨#[120]⟩, ⟨#[121, 122]⟩] := by decide +kernel
  have f1 : foldL [195, 132, 195, 159, 197, 184, 206, 134, 208, 150, 90, 255, 226, 130, 172] = [195, 164, 195, 159, 195, 191, 206, 172, 208, 182, 122, 255, 226, 130, 172] := by decide +kernel
  have f2 : eqF [196, 128] [196, 129] = true := by decide +kernel
  have f3 : eqF [195, 151] [195, 183] = false := by decide +kernel
  have o1 : ordL 3 [48, 55] [51, 120] = 1 := by decide +kernel
  have o2 : ordL 3 [120] [57] = 1 := by decide +kernel
  have o3 : ordL 3 [120] [] = 0 := by decide +kernel
  have o4 : ordL 1 [97] [66] = -1 := by decide +kernel
  have o5 : ordL 2 [97] [66] = 1 := by decide +kernel
  have t1 : holdsL 1 2 [97, 98, 67] [66, 99] = true := by decide +kernel
  have t2 : holdsL 2 2 [97, 98, 67] [66, 99] = false := by decide +kernel
  have t3 : holdsL 3 5 [57] [49, 48] = true := by decide +kernel
  have t4 : holdsL 3 2 [57] [57] = false := by decide +kernel
  have t5 : holdsL 1 3 [97, 98, 99] [65, 42] = true := by decide +kernel
  have t6 : holdsL 1 0 [97] [97] = false := by decide +kernel
  have u1 : unitsB (⟨#[97, 195, 132, 195]⟩ : ByteArray).data.toList = [⟨#[97]⟩, ⟨#[195, 132]⟩, ⟨#[195]⟩] := by decide +kernel
  have G1 := Lib.hid g1
  have G2 := Lib.hid g2
  have G3 := Lib.hid g3
  have U1 := Lib.hid u1
  have H := Lib.hid h
  have tb := Below.refl w.heap.size w
  clear h g1 g2 g3 u1
  go_enter Tryd.func8, Tryd.ntmps8
  go_upto_region 4 with (first
    | (go_at_call 19; (with_reducible refine (glob_rd _ _ _ _ (H.out.later tb) (by decide) (by decide)).mono ?_); rintro e w1 hg; rw [G1.out] at hg; obtain ⟨v1, rfl, hown1, hb1⟩ := hg; have tb := tb.trans (hb1.mono tb.size); have hs1 := ownsS.seesS hown1)
    | (go_at_call 19; (with_reducible refine (glob_rd _ _ _ _ (H.out.later tb) (by decide) (by decide)).mono ?_); rintro e w2 hg; rw [G2.out] at hg; obtain ⟨rfl, hb2⟩ := hg; have tb := tb.trans (hb2.mono tb.size); have hs1 := hs1.later hb2)
    | (go_at_call 19; (with_reducible refine (glob_rd _ _ _ _ (H.out.later tb) (by decide) (by decide)).mono ?_); rintro e w3 hg; rw [G3.out] at hg; obtain ⟨v3, rfl, hown3, hb3⟩ := hg; have tb := tb.trans (hb3.mono tb.size); have hs1 := hs1.later hb3; have hs3 := ownsS.seesS hown3; clear hown1 hown3))
  go_upto_region 7 with (first
    | (go_at_call 12; (with_reducible refine (fold_rd _ _ (H.out.later tb) (by decide)).mono ?_); rintro e w4 ⟨rfl, hb4⟩; have tb := tb.trans (hb4.mono tb.size); have hs1 := hs1.later hb4; have hs3 := hs3.later hb4)
    | (go_at_call 14; (with_reducible refine (equal_rd _ _ _ (H.out.later tb) (by decide) (by decide)).mono ?_); rintro e w4 ⟨rfl, hb4⟩; have tb := tb.trans (hb4.mono tb.size); have hs1 := hs1.later hb4; have hs3 := hs3.later hb4)
    | (go_at_call 16; (with_reducible refine (order_rd _ _ _ _ (H.out.later tb) (by decide) (by decide)).mono ?_); rintro e w4 ⟨rfl, hb4⟩; have tb := tb.trans (hb4.mono tb.size); have hs1 := hs1.later hb4; have hs3 := hs3.later hb4)
    | (go_at_call 21; (with_reducible refine (holds_rd _ _ _ _ _ (H.out.later tb) (by decide) (by decide)).mono ?_); rintro e w4 ⟨rfl, hb4⟩; have tb := tb.trans (hb4.mono tb.size); have hs1 := hs1.later hb4; have hs3 := hs3.later hb4))
  go_wp2_with (first
    | (go_at_call 9; (with_reducible refine (sameT_refl _ _ _ _ (hs1.later (one_alloc _ _)) ?_ (by decide)).mono ?_); (exact lit_sees _ [⟨#[97, 98, 99]⟩, ⟨#[100]⟩] _ _ _ _ rfl rfl _ rfl (by decide)); rintro e w5 ⟨rfl, hb5⟩; have hbA := (one_alloc _ _).trans (hb5.mono (one_alloc _ _).size); have tb := tb.trans (hbA.mono tb.size); have hs3 := hs3.later hbA)
    | (go_at_call 9; (with_reducible refine (sameT_refl _ _ _ _ (hs3.later (one_alloc _ _)) ?_ (by decide)).mono ?_); (exact lit_sees _ [⟨#[120]⟩, ⟨#[121, 122]⟩] _ _ _ _ rfl rfl _ rfl (by decide)); rintro e w7 ⟨rfl, hb7⟩; have hbA := (one_alloc _ _).trans (hb7.mono (one_alloc _ _).size); have tb := tb.trans (hbA.mono tb.size))
    | (go_at_call 10; (with_reducible refine (unitsP_any _ _ (by decide)).mono ?_); rintro e w6 hu; rw [U1.out] at hu; obtain ⟨v6, rfl, hown6, hb6⟩ := hu; have tb := tb.trans (hb6.mono tb.size); have hs6 := ownsS.seesS hown6)
    | (go_at_call 9; (with_reducible refine (sameT_refl _ _ _ _ (hs6.later (one_alloc _ _)) ?_ (by decide)).mono ?_); (exact lit_sees _ [⟨#[97]⟩, ⟨#[195, 132]⟩, ⟨#[195]⟩] _ _ _ _ rfl rfl _ rfl (by decide)); rintro e w8 ⟨rfl, hb8⟩; have hbA := (one_alloc _ _).trans (hb8.mono (one_alloc _ _).size); have tb := tb.trans (hbA.mono tb.size)))
  go_ret
  exact ⟨rfl, tb⟩
end Go.Proofs.YtlbnhkojfefccaaDoor
