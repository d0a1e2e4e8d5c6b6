/- Walks: chapter 11's laws: the fixed examples. Walks: chapter 11's laws: the fixed examples hold. -/
import Derived.Test.YtilccofdphohiaaGreatDoorAdW5
import Derived.Test.YtilccofdphohiaaGreatDoorAdW6
import Derived.Test.YtilccofdphohiaaGreatDoorAdW4
import Derived.Test.YtilccofdphohiaaGreatDoorAd7
import Derived.Deep.RegionHeld3
import Derived.Deep.DrawnRows
namespace Go.Proofs.YtilccofdphohiaaGreatDoor
open Go.RowKit Pk Ad Tk Su Fo Rp

attribute [local go_sem ↓] Go.wp_at_zero Go.wp_at_succ
/-- what the walks lean on -/
def Ra (w : World) : Prop := ∃ m : Int, w.cell? ⟨0, 0, none⟩ = some (.int .i64 m)
theorem Ra.later {w w' : World} (h : Ra w) (hb : Below w.heap.size w w') : Ra w' := by obtain ⟨m, h⟩ := h; exact ⟨m, cell_later hb h⟩
theorem one_alloc (w : World) (o : Obj) : Below w.heap.size w (w.alloc o) := (Below.refl _ _).alloc (Nat.le_refl _) _
theorem lst_inj {a b : AdB} (h : a.lst = b.lst) : a = b := by
  obtain ⟨a1, a2, a3⟩ := a
  obtain ⟨b1, b2, b3⟩ := b
  unfold AdB.lst at h
  injection h with h1 h2 h3
  have h1 : a1.data.toList = b1.data.toList := h1
  have h2 : a2.data.toList = b2.data.toList := h2
  have h3 : a3.data.toList = b3.data.toList := h3
  rw [ba_extA h1, ba_extA h2, ba_extA h3]
theorem lsts_inj : ∀ {a b : List AdB}, a.map AdB.lst = b.map AdB.lst → a = b
  | [], [], _ => rfl
  | [], _ :: _, h => by cases h
  | _ :: _, [], h => by cases h
  | x :: a, y :: b, h => by
    rw [List.map_cons, List.map_cons] at h
    injection h with h1 h2
    rw [lst_inj h1, lsts_inj h2]
theorem litT_sees (w : World) (xs : List ByteArray) (t : TypeId) (B c : Nat) (cs : Array Value) (hB : B = w.heap.size) (hcs : cs = (xs.map fun x => Value.string x).toArray) (n : Nat) (hn : n = xs.length) (hc : n ≤ c) :
    TxSees (w.alloc (.cells cs t)) (.slice (some ⟨B, 0, none⟩) n c) xs := by
  subst hB hcs hn
  refine ⟨_, c, rfl, hc, .inr ⟨_, 0, rfl, fun j hj => ?_⟩⟩
  have := cells_new w (xs.map fun x => Value.string x) t j (.string xs[j]) (by rw [List.getElem?_map, List.getElem?_eq_getElem hj]; rfl)
  rwa [Addr.add_lit] at this
theorem litA_sees (w : World) (xs : List AdB) (t : TypeId) (B c : Nat) (cs : Array Value) (hB : B = w.heap.size) (hcs : cs = (xs.flatMap adLay.enc).toArray) (n : Nat) (hn : n = xs.length) (hc : n ≤ c) :
    AdSees (w.alloc (.cells cs t)) (.slice (some ⟨B, 0, none⟩) n c) xs := by
  subst hB hcs hn
  have h : ∀ j (hj : j < xs.length) i u, (adLay.enc xs[j])[i]? = some u → (w.alloc (.cells (xs.flatMap adLay.enc).toArray t)).cell? ⟨w.heap.size, j * 3 + i, none⟩ = some u := fun j hj i u hu => by
    have := cells_new w (xs.flatMap adLay.enc) t (j * 3 + i) u (encG_at adLay xs j hj i u hu)
    rwa [Addr.add_lit, Nat.zero_add] at this
  exact ⟨_, c, rfl, hc, .inr ⟨_, 0, rfl, fun j hj => by rw [Nat.zero_add]; exact ⟨h j hj 0 _ rfl, h j hj 1 _ rfl, h j hj 2 _ rfl⟩⟩⟩
theorem sameA_refl (va vb : Value) (a : List AdB) (w : World) (hA : AdSees w va a) (hB : AdSees w vb a) (la : a.length ≤ 2000000) :
    Calls Tryz.prog 13 #[va, vb] w fun e w' => e = .returned (.bool true) ∧ Below w.heap.size w w' := by
  have h := sameA_any va vb a a w hA hB la
  rwa [decide_eq_true rfl] at h
theorem sameT_refl (va vb : Value) (a : List ByteArray) (w : World) (hA : TxSees w va a) (hB : TxSees w vb a) (la : a.length ≤ 1000000) :
    Calls Tryz.prog 14 #[va, vb] w fun e w' => e = .returned (.bool true) ∧ Below w.heap.size w w' := by
  have h := sameT_any va vb a a w hA hB la
  rwa [decide_eq_true rfl] at h
def xs1 : List AdB := [⟨⟨#[]⟩, ⟨#[97]⟩, ⟨#[98]⟩⟩, ⟨⟨#[120, 32, 121]⟩, ⟨#[99, 46, 100]⟩, ⟨#[69]⟩⟩, ⟨⟨#[74, 46, 32, 68]⟩, ⟨#[107, 32, 108]⟩, ⟨#[91, 49, 46, 50, 93]⟩⟩]
def xs2 : List AdB := [⟨⟨#[]⟩, ⟨#[100]⟩, ⟨#[101]⟩⟩]
def xs3 : List AdB := [⟨⟨#[]⟩, ⟨#[97]⟩, ⟨#[98]⟩⟩, ⟨⟨#[74, 46, 32, 68]⟩, ⟨#[107, 32, 108]⟩, ⟨#[91, 49, 46, 50, 93]⟩⟩]
def tx1 : List ByteArray := [⟨#[97, 64, 98]⟩, ⟨#[99]⟩]
def Prs (xs : List AdB) (b : Bool) (w : World) (e : Ending) (w' : World) : Prop := ∃ v, e = .returned (.tuple #[v, .bool b]) ∧ (∃ B, ownsG adLay w' B 34 v xs) ∧ AdSees w' v xs ∧ Below w.heap.size w w'
theorem pars_to {xs : List AdB} {b : Bool} {x : List Adr × Bool} {w w' : World} {e : Ending} (h : ParsIs x w e w') (hx : x = (xs.map AdB.lst, b)) : Prs xs b w e w' := by
  subst hx
  obtain ⟨v, ys, rfl, hown, hy, hb⟩ := h
  have := lsts_inj hy
  subst this
  exact ⟨v, rfl, ⟨_, hown⟩, AdSees.of_owns hown, hb⟩
def e1 : ByteArray := ⟨#[103, 58, 32, 97, 64, 98, 44, 32, 34, 120, 32, 121, 34, 32, 60, 99, 46, 100, 64, 69, 62, 32, 40, 122, 41, 59, 44, 32, 74, 46, 32, 68, 32, 60, 64, 113, 58, 34, 107, 32, 108, 34, 64, 91, 49, 32, 46, 50, 93, 62]⟩
def e2 : ByteArray := ⟨#[97, 64, 98, 32, 99, 44, 32, 60, 100, 64, 101, 62, 44, 32, 120]⟩
theorem p1_is : parseA e1.data.toList = (xs1.map AdB.lst, true) := ex1_is
theorem p2_is : parseA e2.data.toList = (xs2.map AdB.lst, false) := ex2_is
theorem p1_any (w : World) : Calls Tryz.prog 11 #[.string e1] w (Prs xs1 true w) := (parse_any e1 w (by decide)).mono fun e w' h => pars_to h p1_is
theorem p2_any (w : World) : Calls Tryz.prog 11 #[.string e2] w (Prs xs2 false w) := (parse_any e2 w (by decide)).mono fun e w' h => pars_to h p2_is
theorem c1_any (w : World) : Calls Tryz.prog 20 #[.agg #[.string ⟨#[120, 32, 121]⟩, .string ⟨#[99, 46, 100]⟩, .string ⟨#[69]⟩]] w (fun e w' => e = .returned (.string ⟨#[99, 46, 100, 64, 101]⟩) ∧ Below w.heap.size w w') := (canon_any ⟨#[120, 32, 121]⟩ ⟨#[99, 46, 100]⟩ ⟨#[69]⟩ w (by decide) (by decide)).mono fun e w' h => by
  obtain ⟨h, hb⟩ := h
  refine ⟨h.trans ?_, hb⟩
  rw [show (⟨#[99, 46, 100]⟩ : ByteArray).data.toList ++ 64 :: (⟨#[69]⟩ : ByteArray).data.toList.map lowA = [99, 46, 100, 64, 101] by decide +kernel]
theorem w1_any (v : Value) (w : World) (hr : Ra w) (hv : AdSees w v xs3) : Calls Tryz.prog 22 #[v] w (fun e w' => e = .returned (.string ⟨#[97, 64, 98, 44, 32, 34, 74, 46, 32, 68, 34, 32, 60, 34, 107, 32, 108, 34, 64, 91, 49, 46, 50, 93, 62]⟩) ∧ Below w.heap.size w w') := by
  obtain ⟨m, hm⟩ := hr
  refine (write_any v xs3 w m hm hv (by decide) (by decide)).mono fun e w' h => ?_
  obtain ⟨h, hb⟩ := h
  refine ⟨h.trans ?_, hb⟩
  rw [show writeLst (xs3.map AdB.lst) = [97, 64, 98, 44, 32, 34, 74, 46, 32, 68, 34, 32, 60, 34, 107, 32, 108, 34, 64, 91, 49, 46, 50, 93, 62] from ex4_is]
theorem r1_any (w : World) (hr : Ra w) : Calls Tryz.prog 18 #[.agg #[.string ⟨#[74, 46, 32, 68]⟩, .string ⟨#[107, 32, 108]⟩, .string ⟨#[91, 49, 46, 50, 93]⟩]] w (fun e w' => e = .returned (.bool true) ∧ Below w.heap.size w w') := by
  obtain ⟨m, hm⟩ := hr
  refine (right_any ⟨#[74, 46, 32, 68]⟩ ⟨#[107, 32, 108]⟩ ⟨#[91, 49, 46, 50, 93]⟩ w m hm (by decide) (by decide) (by decide)).mono fun e w' h => ?_
  obtain ⟨h, hb⟩ := h
  refine ⟨h.trans ?_, hb⟩
  rw [show rightA ⟨(⟨#[74, 46, 32, 68]⟩ : ByteArray).data.toList, (⟨#[107, 32, 108]⟩ : ByteArray).data.toList, (⟨#[91, 49, 46, 50, 93]⟩ : ByteArray).data.toList⟩ = true from ex5_is.1]
theorem r2_any (w : World) (hr : Ra w) : Calls Tryz.prog 18 #[.agg #[.string ⟨#[]⟩, .string ⟨#[97]⟩, .string ⟨#[]⟩]] w (fun e w' => e = .returned (.bool false) ∧ Below w.heap.size w w') := by
  obtain ⟨m, hm⟩ := hr
  refine (right_any ⟨#[]⟩ ⟨#[97]⟩ ⟨#[]⟩ w m hm (by decide) (by decide) (by decide)).mono fun e w' h => ?_
  obtain ⟨h, hb⟩ := h
  refine ⟨h.trans ?_, hb⟩
  rw [show rightA ⟨(⟨#[]⟩ : ByteArray).data.toList, (⟨#[97]⟩ : ByteArray).data.toList, (⟨#[]⟩ : ByteArray).data.toList⟩ = false from ex5_is.2]
def e3 : ByteArray := ⟨#[60, 97, 64, 98, 62, 32, 120, 60, 60, 99, 62, 32, 60, 100, 32, 101, 62, 32, 60, 62]⟩
def IdsTo (l : List ByteArray) (w : World) (e : Ending) (w' : World) : Prop := ∃ v, e = .returned v ∧ TxSees w' v l ∧ Below w.heap.size w w'
theorem i1_any (w : World) (hr : Ra w) : Calls Tryz.prog 15 #[.string e3] w (IdsTo tx1 w) := by
  obtain ⟨m, hm⟩ := hr
  refine (ids_any e3 w m (by decide) hm).mono fun e w' h => ?_
  obtain ⟨v, rfl, hown, hb⟩ := h
  refine ⟨v, rfl, ?_, hb⟩
  have : idsB e3.data.toList = tx1 := by
    unfold idsB
    rw [show idsL e3.data.toList = [[97, 64, 98], [99]] from ex6_is]; rfl
  rw [this] at hown
  exact TxSees.of_owns hown
theorem xs1_slice {w : World} {v : Value} (h : ∃ B, ownsG adLay w B 34 v xs1) : ∃ g c, v = .slice (some ⟨g, 0, none⟩) 3 c ∧ 3 ≤ c ∧ (w.cell? ⟨g, 0, none⟩ = some (.string ⟨#[]⟩) ∧ w.cell? ⟨g, 1, none⟩ = some (.string ⟨#[97]⟩) ∧ w.cell? ⟨g, 2, none⟩ = some (.string ⟨#[98]⟩) ∧ w.cell? ⟨g, 3, none⟩ = some (.string ⟨#[120, 32, 121]⟩) ∧ w.cell? ⟨g, 4, none⟩ = some (.string ⟨#[99, 46, 100]⟩) ∧ w.cell? ⟨g, 5, none⟩ = some (.string ⟨#[69]⟩)) := by
  obtain ⟨B, h⟩ := h
  obtain ⟨p, c, rfl, hc, hh⟩ := adForm (h.sees (Nat.le_refl _))
  rcases hh with hh | ⟨g, rfl, hh⟩
  · cases hh
  · obtain ⟨a0, a1, a2⟩ := hh 0 (by decide)
    obtain ⟨b0, b1, b2⟩ := hh 1 (by decide)
    exact ⟨g, c, rfl, hc, a0, a1, a2, b0, b1, b2⟩
/-- the cells that the examples read -/
def SmAt (g a : Nat) (w : World) : Prop := w.cell? ⟨g, 0, none⟩ = some (.string ⟨#[]⟩) ∧ w.cell? ⟨g, 1, none⟩ = some (.string ⟨#[97]⟩) ∧ w.cell? ⟨g, 2, none⟩ = some (.string ⟨#[98]⟩) ∧ w.cell? ⟨g, 3, none⟩ = some (.string ⟨#[120, 32, 121]⟩) ∧ w.cell? ⟨g, 4, none⟩ = some (.string ⟨#[99, 46, 100]⟩) ∧ w.cell? ⟨g, 5, none⟩ = some (.string ⟨#[69]⟩) ∧ w.cell? ⟨a, 0, none⟩ = some (.string ⟨#[74, 46, 32, 68]⟩) ∧ w.cell? ⟨a, 1, none⟩ = some (.string ⟨#[107, 32, 108]⟩) ∧ w.cell? ⟨a, 2, none⟩ = some (.string ⟨#[91, 49, 46, 50, 93]⟩)
theorem SmAt.later {g a : Nat} {w w' : World} (h : SmAt g a w) (hb : Below w.heap.size w w') : SmAt g a w' := by
  obtain ⟨h0, h1, h2, h3, h4, h5, h6, h7, h8⟩ := h
  exact ⟨laterW hb h0, laterW hb h1, laterW hb h2, laterW hb h3, laterW hb h4, laterW hb h5, laterW hb h6, laterW hb h7, laterW hb h8⟩
end Go.Proofs.YtilccofdphohiaaGreatDoor
namespace Go.Proofs.YtilccofdphohiaaGreatDoor
open Go.RowKit Pk Ad Tk Su Fo Rp

attribute [local go_sem ↓] Go.wp_at_zero Go.wp_at_succ
theorem one_allocD (w : World) (o : Obj) : Below w.heap.size w (w.alloc o).drew := (one_alloc w o).drew
theorem viaD {w w' : World} {o : Obj} (hb : Below (w.alloc o).drew.heap.size (w.alloc o).drew w') : Below w.heap.size w w' := (one_allocD w o).trans (hb.mono (one_allocD w o).size)
theorem viaP {w w' : World} {o : Obj} (hb : Below (w.alloc o).heap.size (w.alloc o) w') : Below w.heap.size w w' := (one_alloc w o).trans (hb.mono (one_alloc w o).size)
theorem litA_seesD (w : World) (xs : List AdB) (t : TypeId) (B c : Nat) (cs : Array Value) (hB : B = w.heap.size) (hcs : cs = (xs.flatMap adLay.enc).toArray) (n : Nat) (hn : n = xs.length) (hc : n ≤ c) :
    AdSees (w.alloc (.cells cs t)).drew (.slice (some ⟨B, 0, none⟩) n c) xs := litA_sees w xs t B c cs hB hcs n hn hc
theorem litT_seesD (w : World) (xs : List ByteArray) (t : TypeId) (B c : Nat) (cs : Array Value) (hB : B = w.heap.size) (hcs : cs = (xs.map fun x => Value.string x).toArray) (n : Nat) (hn : n = xs.length) (hc : n ≤ c) :
    TxSees (w.alloc (.cells cs t)).drew (.slice (some ⟨B, 0, none⟩) n c) xs := litT_sees w xs t B c cs hB hcs n hn hc
def Truth (w : World) (e : Ending) (w' : World) : Prop := e = .returned (.bool true) ∧ Below w.heap.size w w'
set_option maxHeartbeats 8000000 in
set_option maxRecDepth 100000 in
theorem small_any (w : World) (h : Ra w) : Calls Tryz.prog 10 #[] w (Truth w) := by
  have hp1 : ∀ W, Calls Tryz.prog 11 #[.string ⟨#[103, 58, 32, 97, 64, 98, 44, 32, 34, 120, 32, 121, 34, 32, 60, 99, 46, 100, 64, 69, 62, 32, 40, 122, 41, 59, 44, 32, 74, 46, 32, 68, 32, 60, 64, 113, 58, 34, 107, 32, 108, 34, 64, 91, 49, 32, 46, 50, 93, 62]⟩] W (Prs xs1 true W) := fun W => p1_any W
  have hp2 : ∀ W, Calls Tryz.prog 11 #[.string ⟨#[97, 64, 98, 32, 99, 44, 32, 60, 100, 64, 101, 62, 44, 32, 120]⟩] W (Prs xs2 false W) := fun W => p2_any W
  have hi : ∀ W, Ra W → Calls Tryz.prog 15 #[.string ⟨#[60, 97, 64, 98, 62, 32, 120, 60, 60, 99, 62, 32, 60, 100, 32, 101, 62, 32, 60, 62]⟩] W (IdsTo tx1 W) := fun W hr => i1_any W hr
  have HP1 := Lib.hid hp1
  have HP2 := Lib.hid hp2
  have HI := Lib.hid hi
  have HR := Lib.hid h
  have tb := Below.refl w.heap.size w
  clear hp1 hp2 hi h
  go_enter Tryz.func10, Tryz.ntmps10
  go_upto_region 4 with (first
    | (go_at_call 11; (with_reducible refine (HP1.out _).mono ?_); rintro e w1 ⟨v1, rfl, ho1, hs1, hb1⟩; have tb := tb.trans (hb1.mono tb.size); obtain ⟨g1, c1, rfl, hc1, hcell⟩ := xs1_slice ho1)
    | (go_at_call 11; (with_reducible refine (HP2.out _).mono ?_); rintro e w2 ⟨v2, rfl, -, hs2, hb2⟩; have tb := tb.trans (hb2.mono tb.size); have hs1 := hs1.later hb2))
  have hbA := one_alloc w2 (.cells #[.string ⟨#[74, 46, 32, 68]⟩, .string ⟨#[107, 32, 108]⟩, .string ⟨#[91, 49, 46, 50, 93]⟩] 34)
  have HT : SmAt g1 w2.heap.size (w2.alloc (.cells #[.string ⟨#[74, 46, 32, 68]⟩, .string ⟨#[107, 32, 108]⟩, .string ⟨#[91, 49, 46, 50, 93]⟩] 34)) := by
    obtain ⟨a0, a1, a2, b0, b1, b2⟩ := hcell
    have kk := heap_alloc_new w2 (.cells #[.string ⟨#[74, 46, 32, 68]⟩, .string ⟨#[107, 32, 108]⟩, .string ⟨#[91, 49, 46, 50, 93]⟩] 34)
    exact ⟨laterW hbA (laterW hb2 a0), laterW hbA (laterW hb2 a1), laterW hbA (laterW hb2 a2), laterW hbA (laterW hb2 b0), laterW hbA (laterW hb2 b1), laterW hbA (laterW hb2 b2), Lib.cell_of_heap kk 0, Lib.cell_of_heap kk 1, Lib.cell_of_heap kk 2⟩
  have tb := tb.trans (hbA.mono tb.size)
  have hs1 := hs1.later hbA
  have hs2 := hs2.later hbA
  clear hcell hb1 hb2 ho1
  generalize hW : w2.alloc (.cells #[.string ⟨#[74, 46, 32, 68]⟩, .string ⟨#[107, 32, 108]⟩, .string ⟨#[91, 49, 46, 50, 93]⟩] 34) = wA at *
  generalize w2.heap.size = ga at *
  clear hW hbA
  have hh := HT
  obtain ⟨q0, q1, q2, q3, q4, q5, q6, q7, q8⟩ := hh
  go_region_held3 (fun w => w.cell? ⟨g1, 0, none⟩ = some (.string ⟨#[]⟩) ∧ w.cell? ⟨g1, 1, none⟩ = some (.string ⟨#[97]⟩) ∧ w.cell? ⟨g1, 2, none⟩ = some (.string ⟨#[98]⟩) ∧ w.cell? ⟨g1, 3, none⟩ = some (.string ⟨#[120, 32, 121]⟩) ∧ w.cell? ⟨g1, 4, none⟩ = some (.string ⟨#[99, 46, 100]⟩) ∧ w.cell? ⟨g1, 5, none⟩ = some (.string ⟨#[69]⟩) ∧ w.cell? ⟨ga, 0, none⟩ = some (.string ⟨#[74, 46, 32, 68]⟩) ∧ w.cell? ⟨ga, 1, none⟩ = some (.string ⟨#[107, 32, 108]⟩) ∧ w.cell? ⟨ga, 2, none⟩ = some (.string ⟨#[91, 49, 46, 50, 93]⟩)) (first | exact HT | exact HT.later (one_allocD _ _) | exact HT.later (one_alloc _ _) | exact HT.later (Below.refl _ _).drew) (first
    | (go_at_call 13; (with_reducible refine (sameA_refl _ _ xs1 _ (hs1.later (one_allocD _ _)) ?_ (by decide)).mono ?_); (exact litA_seesD _ xs1 _ _ _ _ rfl rfl _ rfl (by decide)); rintro e w3 ⟨rfl, hb3⟩; have hbA := viaD hb3; have HT := HT.later hbA; have tb := tb.trans (hbA.mono tb.size); have hs1 := hs1.later hbA; have hs2 := hs2.later hbA)
    | (go_at_call 13; (with_reducible refine (sameA_refl _ _ xs1 _ (hs1.later (one_alloc _ _)) ?_ (by decide)).mono ?_); (exact litA_sees _ xs1 _ _ _ _ rfl rfl _ rfl (by decide)); rintro e w3 ⟨rfl, hb3⟩; have hbA := viaP hb3; have HT := HT.later hbA; have tb := tb.trans (hbA.mono tb.size); have hs1 := hs1.later hbA; have hs2 := hs2.later hbA)
    | (go_at_call 13; (with_reducible refine (sameA_refl _ _ xs2 _ (hs2.later (one_allocD _ _)) ?_ (by decide)).mono ?_); (exact litA_seesD _ xs2 _ _ _ _ rfl rfl _ rfl (by decide)); rintro e w4 ⟨rfl, hb4⟩; have hbA := viaD hb4; have HT := HT.later hbA; have tb := tb.trans (hbA.mono tb.size); have hs1 := hs1.later hbA; have hs2 := hs2.later hbA)
    | (go_at_call 13; (with_reducible refine (sameA_refl _ _ xs2 _ (hs2.later (one_alloc _ _)) ?_ (by decide)).mono ?_); (exact litA_sees _ xs2 _ _ _ _ rfl rfl _ rfl (by decide)); rintro e w4 ⟨rfl, hb4⟩; have hbA := viaP hb4; have HT := HT.later hbA; have tb := tb.trans (hbA.mono tb.size); have hs1 := hs1.later hbA; have hs2 := hs2.later hbA)
    | (go_at_call 20; (with_reducible refine (c1_any _).mono ?_); rintro e w5 ⟨rfl, hbA⟩; have HT := HT.later hbA; have tb := tb.trans (hbA.mono tb.size); have hs1 := hs1.later hbA; have hs2 := hs2.later hbA)
    | (go_at_call 22; (with_reducible refine (w1_any _ _ (HR.out.later (tb.trans ((one_allocD _ _).mono tb.size))) ?_).mono ?_); (exact litA_seesD _ xs3 _ _ _ _ rfl rfl _ rfl (by decide)); rintro e w6 ⟨rfl, hb6⟩; have hbA := viaD hb6; have HT := HT.later hbA; have tb := tb.trans (hbA.mono tb.size); have hs1 := hs1.later hbA; have hs2 := hs2.later hbA)
    | (go_at_call 22; (with_reducible refine (w1_any _ _ (HR.out.later (tb.trans ((one_alloc _ _).mono tb.size))) ?_).mono ?_); (exact litA_sees _ xs3 _ _ _ _ rfl rfl _ rfl (by decide)); rintro e w6 ⟨rfl, hb6⟩; have hbA := viaP hb6; have HT := HT.later hbA; have tb := tb.trans (hbA.mono tb.size); have hs1 := hs1.later hbA; have hs2 := hs2.later hbA)
    | (go_at_call 18; (with_reducible refine (r1_any _ (HR.out.later tb)).mono ?_); rintro e w7 ⟨rfl, hbA⟩; have HT := HT.later hbA; have tb := tb.trans (hbA.mono tb.size); have hs1 := hs1.later hbA; have hs2 := hs2.later hbA)
    | (go_at_call 18; (with_reducible refine (r2_any _ (HR.out.later tb)).mono ?_); rintro e w8 ⟨rfl, hbA⟩; have HT := HT.later hbA; have tb := tb.trans (hbA.mono tb.size); have hs1 := hs1.later hbA; have hs2 := hs2.later hbA)
    | (go_at_call 15; (with_reducible refine (HI.out _ (HR.out.later tb)).mono ?_); rintro e w9 ⟨v9, rfl, hs9, hbA⟩; have HT := HT.later hbA; have tb := tb.trans (hbA.mono tb.size); have hs1 := hs1.later hbA; have hs2 := hs2.later hbA)
    | (go_at_call 15; (with_reducible refine (HI.out _ (HR.out.later (tb.trans ((one_alloc _ _).mono tb.size)))).mono ?_); rintro e w9 ⟨v9, rfl, hs9, hb9⟩; have hbA := viaP hb9; have hlit := (litT_sees _ tx1 _ _ 2 _ rfl rfl 2 rfl (by decide)).later hb9; have HT := HT.later hbA; have tb := tb.trans (hbA.mono tb.size); have hs1 := hs1.later hbA; have hs2 := hs2.later hbA)
    | (go_at_call 15; (with_reducible refine (HI.out _ (HR.out.later (tb.trans ((one_allocD _ _).mono tb.size)))).mono ?_); rintro e w9 ⟨v9, rfl, hs9, hb9⟩; have hbA := viaD hb9; have hlit := (litT_seesD _ tx1 _ _ 2 _ rfl rfl 2 rfl (by decide)).later hb9; have HT := HT.later hbA; have tb := tb.trans (hbA.mono tb.size); have hs1 := hs1.later hbA; have hs2 := hs2.later hbA)
    | (go_at_call 14; (with_reducible refine (sameT_refl _ _ tx1 _ hs9 hlit (by decide)).mono ?_); rintro e w10 ⟨rfl, hbA⟩; have HT := HT.later hbA; have tb := tb.trans (hbA.mono tb.size))
    | (go_at_call 14; (with_reducible refine (sameT_refl _ _ tx1 _ (hs9.later (one_allocD _ _)) ?_ (by decide)).mono ?_); (exact litT_seesD _ tx1 _ _ _ _ rfl rfl _ rfl (by decide)); rintro e w10 ⟨rfl, hb10⟩; have hbA := viaD hb10; have HT := HT.later hbA; have tb := tb.trans (hbA.mono tb.size))
    | (go_at_call 14; (with_reducible refine (sameT_refl _ _ tx1 _ (hs9.later (one_alloc _ _)) ?_ (by decide)).mono ?_); (exact litT_sees _ tx1 _ _ _ _ rfl rfl _ rfl (by decide)); rintro e w10 ⟨rfl, hb10⟩; have hbA := viaP hb10; have HT := HT.later hbA; have tb := tb.trans (hbA.mono tb.size)))
  all_goals
    go_wp2
    go_ret
    exact ⟨rfl, tb⟩
end Go.Proofs.YtilccofdphohiaaGreatDoor
