/- Walks: addr: what Write calls. Walks: addr: Write. Walks: the comparing of lists of addresses and of texts. -/
import Derived.Test.YtilccofdphohiaaGreatDoorAdW2
import Derived.Test.YtilccofdphohiaaGreatDoorAd8
import Derived.Test.YtilccofdphohiaaGreatDoorAdW4
namespace Go.Proofs.YtilccofdphohiaaGreatDoor
open Go.RowKit Pk Ad Tk Fo Su Rp

def eps : List (UInt8 × ByteArray) := [(34, ⟨#[92, 34]⟩), (92, ⟨#[92, 92]⟩)]
theorem eps_rep (l : List UInt8) : repA eps l = l.flatMap escA := by
  unfold repA
  have h0 : ∀ n : Nat, n < 256 → repP eps (UInt8.ofNat n) = escA (UInt8.ofNat n) := by decide +kernel
  have h : ∀ c : UInt8, repP eps c = escA c := fun c => by
    have := h0 c.toNat c.toNat_lt
    rwa [UInt8.ofNat_toNat] at this
  rw [show repP eps = escA from funext h]
theorem esc_le (l : List UInt8) : (l.flatMap escA).length ≤ 2 * l.length := by
  induction l with
  | nil => simp
  | cons c r ih =>
    rw [List.flatMap_cons, List.length_append, List.length_cons]
    have : (escA c).length ≤ 2 := by unfold escA; split <;> simp
    omega
theorem join_A : ∀ L : List (List UInt8), Lib.join L [44, 32] = joinA L
  | [] => rfl
  | [x] => Lib.join_one _ _
  | x :: y :: r => by
    have ih := join_A (y :: r)
    rw [Lib.join_cons] at ih
    rw [Lib.join_cons, joinA, ← ih]
    unfold Lib.joinTail
    simp
theorem joinA_len : ∀ L : List (List UInt8), (∀ x ∈ L, x.length ≤ 100000) → (joinA L).length ≤ 100002 * L.length
  | [], _ => Nat.zero_le _
  | [x], h => by
    have := h x (List.mem_cons_self ..)
    rw [joinA]
    simp; omega
  | x :: y :: r, h => by
    have ih := joinA_len (y :: r) (fun z hz => h z (List.mem_cons_of_mem _ hz))
    have := h x (List.mem_cons_self ..)
    rw [joinA, List.length_append, List.length_cons, List.length_cons]
    rw [List.length_cons, List.length_cons] at *
    omega
theorem joinW_any (v : Value) (B : Nat) (us : List ByteArray) (w : World) (hS : ownsS w B 9 v us) (hn : us.length ≤ 1000) (hu : ∀ x ∈ us, x.size ≤ 100000) :
    Calls Tryz.prog 43 #[v, .string ⟨#[44, 32]⟩] w (StrIs (joinA (us.map fun b => b.data.toList)) w) := by
  rcases hS.form with ⟨rfl, he⟩ | ⟨g, cp, rfl, hBg, hlc, hcm, hcells⟩
  · subst he
    exact (Tryz.strings_Join_none none 0 ⟨#[44, 32]⟩ w).mono (by rintro e w' ⟨rfl, rfl⟩; exact ⟨rfl, Below.refl _ _⟩)
  · by_cases h0 : us.length = 0
    · have : us = [] := List.eq_nil_of_length_eq_zero h0
      subst this
      exact (Tryz.strings_Join_none _ cp ⟨#[44, 32]⟩ w).mono (by rintro e w' ⟨rfl, rfl⟩; exact ⟨rfl, Below.refl _ _⟩)
    · have hl := joinA_len (us.map fun b => b.data.toList) (fun x hx => by
        obtain ⟨b, hb, rfl⟩ := List.mem_map.1 hx
        have := hu b hb
        rw [dataL]; exact this)
      rw [List.length_map] at hl
      have hg : g < w.heap.size := World.block_lt_of_cell? _ _ (hcells 0 (by omega))
      have hj := Tryz.strings_Join g 0 cp us ⟨#[44, 32]⟩ w (fun j x hx => by
        obtain ⟨h1, h2⟩ := List.getElem?_eq_some_iff.1 hx
        rw [Nat.zero_add, hcells j h1, h2]) hg (by omega) hlc (by
          rw [show (⟨#[44, 32]⟩ : ByteArray).data.toList = [44, 32] from rfl, join_A]; omega)
      rw [show (⟨#[44, 32]⟩ : ByteArray).data.toList = [44, 32] from rfl, join_A] at hj
      exact hj
theorem joinM (a : List UInt8) (b : ByteArray) (h : b.data.toList = a) : (⟨a.toArray⟩ : ByteArray) = b := mk_of h
theorem quoteL_len (l : List UInt8) : (quoteL l).length ≤ 2 * l.length + 2 := by
  have := rep_length l
  unfold quoteL
  split
  · omega
  · rw [List.cons_append, List.length_cons, List.length_append, List.length_singleton]; omega
theorem writeA_len (a : Adr) : (writeA a).length ≤ 2 * a.name.length + 2 * a.loc.length + a.dom.length + 10 := by
  have h1 := quoteL_len a.name
  have h2 := esc_le a.loc
  have h3 : (locW a.loc).length ≤ 2 * a.loc.length + 2 := by
    unfold locW
    split
    · omega
    · rw [List.length_cons, List.length_append, List.length_singleton]; omega
  have h4 : (specW a).length ≤ 2 * a.loc.length + a.dom.length + 3 := by
    unfold specW
    rw [List.length_append, List.length_cons]; omega
  unfold writeA
  split
  · omega
  · rw [List.length_append, List.length_cons, List.length_cons, List.length_append, List.length_singleton]; omega
theorem dL_app (A B : ByteArray) : (A ++ B).data.toList = A.data.toList ++ B.data.toList := by simp [ByteArray.data_append]
theorem adForm {w : World} {C : Nat} {e : TypeId} {v : Value} {ys : List AdB} (h : seesG adLay w C e v ys) : ∃ p c, v = .slice p ys.length c ∧ ys.length ≤ c ∧ (ys = [] ∨ ∃ g, p = some ⟨g, 0, none⟩ ∧ ∀ j (hj : j < ys.length), w.cell? ⟨g, j * 3, none⟩ = some (.string ys[j].name) ∧ w.cell? ⟨g, j * 3 + 1, none⟩ = some (.string ys[j].loc) ∧ w.cell? ⟨g, j * 3 + 2, none⟩ = some (.string ys[j].dom)) := by
  obtain ⟨p, c, h1, h2, h3⟩ := h.form
  refine ⟨p, c, h1, h2, ?_⟩
  rcases h3 with h3 | ⟨g, h4, h5, h6⟩
  · exact .inl h3
  · exact .inr ⟨g, h4, fun j hj => ⟨h6 j hj 0 _ rfl, h6 j hj 1 _ rfl, h6 j hj 2 _ rfl⟩⟩
/-- addresses as they are read -/
def AdSees (w : World) (v : Value) (ys : List AdB) : Prop := ∃ p c, v = .slice p ys.length c ∧ ys.length ≤ c ∧ (ys = [] ∨ ∃ g o, p = some ⟨g, o, none⟩ ∧ ∀ j (hj : j < ys.length), w.cell? ⟨g, o + j * 3, none⟩ = some (.string ys[j].name) ∧ w.cell? ⟨g, o + j * 3 + 1, none⟩ = some (.string ys[j].loc) ∧ w.cell? ⟨g, o + j * 3 + 2, none⟩ = some (.string ys[j].dom))
theorem AdSees.later {w w' : World} {v : Value} {ys : List AdB} (h : AdSees w v ys) (hb : Below w.heap.size w w') : AdSees w' v ys := by
  obtain ⟨p, c, h1, h2, h3⟩ := h
  refine ⟨p, c, h1, h2, ?_⟩
  rcases h3 with h3 | ⟨g, o, h4, h5⟩
  · exact .inl h3
  · exact .inr ⟨g, o, h4, fun j hj => by
      obtain ⟨c0, c1, c2⟩ := h5 j hj
      exact ⟨laterW hb c0, laterW hb c1, laterW hb c2⟩⟩
theorem AdSees.of_owns {w : World} {B : Nat} {e : TypeId} {v : Value} {ys : List AdB} (h : ownsG adLay w B e v ys) : AdSees w v ys := by
  obtain ⟨p, c, h1, h2, h3⟩ := adForm (h.sees (Nat.le_refl _))
  refine ⟨p, c, h1, h2, ?_⟩
  rcases h3 with h3 | ⟨g, h4, h5⟩
  · exact .inl h3
  · exact .inr ⟨g, 0, h4, fun j hj => by rw [Nat.zero_add]; exact h5 j hj⟩
end Go.Proofs.YtilccofdphohiaaGreatDoor
namespace Go.Proofs.YtilccofdphohiaaGreatDoor
open Go.RowKit Pk Ad Tk Fo Su Rp

set_option maxHeartbeats 4000000 in
set_option maxRecDepth 100000 in
theorem write_any (v : Value) (ys : List AdB) (w : World) (m : Int) (hm : w.cell? ⟨0, 0, none⟩ = some (.int .i64 m)) (hv : AdSees w v ys) (hn : ys.length ≤ 100) (hs : ∀ a ∈ ys, a.name.size ≤ 10000 ∧ a.loc.size ≤ 10000 ∧ a.dom.size ≤ 10000) :
    Calls Tryz.prog 22 #[v] w (StrIs (writeLst (ys.map AdB.lst)) w) := by
  obtain ⟨p, c, rfl, hc, hcs⟩ := hv
  have hst : Hid ((([] : List ByteArray).map fun b => b.data.toList) = (ys.take 0).map fun a => writeA a.lst) := rfl
  have HM := Lib.hid hm
  have HC := Lib.hid hcs
  have HSz := Lib.hid hs
  have hcells : ∀ (W : World) j (u : Value), ((inter eps).map strV)[j]? = some u → (W.alloc (.cells ((inter eps).map strV).toArray 9)).cell? ((⟨W.heap.size, 0, none⟩ : Addr).add j) = some u := fun W j u h => cells_new W _ _ j u h
  have HN := Lib.hid (fun W => newRep_any W.heap.size 4 4 (inter eps) (W.alloc (.cells ((inter eps).map strV).toArray 9)) rfl (by decide) (hcells W) (by decide))
  clear hm hcs hs hcells
  go_enter Tryz.func22, Tryz.ntmps22
  go_wp2
  go_loopg [3, 9] ys.length (fun g ov iv wr => ∃ (k : Nat) (acc : List ByteArray), k + g = ys.length ∧ iv = .int .i64 k ∧ ownsS wr w.heap.size 9 ov acc ∧ Below w.heap.size w wr ∧ acc.length = k ∧ Hid ((acc.map fun b => b.data.toList) = (ys.take k).map fun a => writeA a.lst))
  case atStart => exact ⟨0, [], by omega, by first | rfl | trivial, ⟨by simp, .inl ⟨rfl, rfl⟩⟩, Below.refl _ _, rfl, hst⟩
  case round =>
    clear hst
    obtain ⟨k, acc, hkg, rfl, hown, hbel, hak, hrel⟩ := hrel
    have hsz := hbel.size
    by_cases hlt : k < ys.length
    · obtain ⟨gg, o, rfl, hcell⟩ : ∃ g o, p = some ⟨g, o, none⟩ ∧ ∀ j (hj : j < ys.length), w.cell? ⟨g, o + j * 3, none⟩ = some (.string ys[j].name) ∧ w.cell? ⟨g, o + j * 3 + 1, none⟩ = some (.string ys[j].loc) ∧ w.cell? ⟨g, o + j * 3 + 2, none⟩ = some (.string ys[j].dom) := by
        rcases HC.out with h | h
        · rw [h] at hlt; simp at hlt
        · exact h
      obtain ⟨c0, c1, c2⟩ := hcell k hlt
      have c0 := laterW (hbel.mono (Nat.le_refl _)) c0
      have c1 := laterW (hbel.mono (Nat.le_refl _)) c1
      have c2 := laterW (hbel.mono (Nat.le_refl _)) c2
      obtain ⟨n1, n2, n3⟩ := HSz.out ys[k] (List.getElem_mem hlt)
      have hx : ∀ S : ByteArray, S.data.toList = writeA (ys[k].lst) → Hid (((acc ++ [S]).map fun b => b.data.toList) = (ys.take (k + 1)).map fun a => writeA a.lst) := fun S hS => by
        show _ = _
        rw [List.take_succ_eq_append_getElem hlt, List.map_append, List.map_append, hrel.out]
        simp [hS]
      generalize ys[k] = a at *
      obtain ⟨nm, lo, dm⟩ := a
      have c0 : wr.cell? ⟨gg, o + k * 3, none⟩ = some (.string nm) := c0
      have c1 : wr.cell? ⟨gg, o + k * 3 + 1, none⟩ = some (.string lo) := c1
      have c2 : wr.cell? ⟨gg, o + k * 3 + 2, none⟩ = some (.string dm) := c2
      have n1 : nm.size ≤ 10000 := n1
      have n2 : lo.size ≤ 10000 := n2
      have n3 : dm.size ≤ 10000 := n3
      have hx : ∀ S : ByteArray, S.data.toList = writeA ⟨nm.data.toList, lo.data.toList, dm.data.toList⟩ → Hid (((acc ++ [S]).map fun b => b.data.toList) = (ys.take (k + 1)).map fun a => writeA a.lst) := hx
      have kk := heap_alloc_new wr (.cells #[.string nm, .string lo, .string dm] 34)
      have rb : Below wr.heap.size wr (wr.alloc (.cells #[.string nm, .string lo, .string dm] 34)) := (Below.refl _ _).alloc (Nat.le_refl _) _
      have y0 := Lib.cell_of_heap kk 0
      have y1 := Lib.cell_of_heap kk 1
      have y2 := Lib.cell_of_heap kk 2
      have HD := Lib.hid (fun W hW => dotted_any lo W m hW (by omega))
      have HQ := Lib.hid (fun W hW => quote_any nm W m hW (by omega))
      clear hcell hrel
      obtain ⟨R, hR1, hR2, hR3⟩ := arrE (lo.data.toList.flatMap escA)
      have hRz : R.size ≤ 20000 := by have := esc_le lo.data.toList; rw [dataL] at this; omega
      have HRep := Lib.hid (fun r B v w hrow hown => replace_any r B v eps lo w (by omega) (by decide) (by decide) (by decide) (by decide) (by decide) hrow hown)
      rw [eps_rep, ← hR1] at HRep
      obtain ⟨Q, hQ1, hQ2, hQ3⟩ := arrE (quoteL nm.data.toList)
      have hQz : Q.size ≤ 20002 := by have := quoteL_len nm.data.toList; rw [dataL] at this; omega
      unfold StrIs at HQ
      rw [← hQ1] at HQ
      have hw : writeA ⟨nm.data.toList, lo.data.toList, dm.data.toList⟩ = if nm.data.toList = [] then (if dotted lo.data.toList = true then lo.data.toList else 34 :: (R.data.toList ++ [34])) ++ 64 :: dm.data.toList else Q.data.toList ++ 32 :: 60 :: (((if dotted lo.data.toList = true then lo.data.toList else 34 :: (R.data.toList ++ [34])) ++ 64 :: dm.data.toList) ++ [62]) := by
        rw [hR2, hQ2]; rfl
      rw [hw] at hx
      clear hw hR1 hR2 hR3 hQ1 hQ2 hQ3
      have hLo := lo.data.toList
      generalize dotted lo.data.toList = dt at *
      by_cases h0 : nm.size = 0
      · have q1 := nilS h0
        rw [if_pos (List.eq_nil_of_length_eq_zero (show nm.data.toList.length = 0 from h0))] at hx
        cases dt with
        | true =>
          have HX := hx (lo ++ (⟨#[64]⟩ ++ dm)) (by rw [if_pos rfl, dL_app, dL_app]; rfl)
          clear hx HRep HN HQ
          go_wp2_with (first
            | (go_at_call 38; go_loud ((refine (HD.out _ (cell_later (hbel.trans (rb.mono hsz)) HM.out)).mono ?_); rintro e w2 ⟨rfl, hb2⟩; have rb := rb.trans (hb2.mono rb.size); have kk := (hb2.block _ (lt_of_block kk)).trans kk; have y0 := Lib.cell_of_heap kk 0; have y1 := Lib.cell_of_heap kk 1; have y2 := Lib.cell_of_heap kk 2))
            | (at_builtin; go_loud (refine append_str _ rfl (.tmp 39) (.tmp 41) ssA rfl w.heap.size _ _ rfl (ownsS.alloc (ownsS.below hown rb (Nat.le_refl _)) _) ⟨_, 0, none⟩ 1 1 [_] rfl rfl (cells_new _ _ _) (by first | omega | (simp; done) | (simp; omega)) (by have := rb.size; first | omega | (simp; done) | (simp; omega)) ?_; intro v6 w6 hown6 hg6; have hb6 := Below_grownS (Below.alloc (hbel.trans (rb.mono hsz)) (Nat.le_trans hsz rb.size) _) (ownsS.alloc (ownsS.below hown rb (Nat.le_refl _)) _) hg6 (by have := rb.size; first | omega | (simp; done) | (simp; omega)); clear hg6))
            )
          go_roundg (ys.length - (k + 1))
          case rel => exact ⟨k + 1, _, by omega, by go_num, hown6, hb6, by rw [List.length_append, List.length_singleton]; omega, HX⟩
          case measure => omega
        | false =>
          have HX := hx (⟨#[34]⟩ ++ R ++ ⟨#[34]⟩ ++ (⟨#[64]⟩ ++ dm)) (by rw [if_neg (by decide), dL_app, dL_app, dL_app, dL_app]; rfl)
          clear hx HQ
          go_wp2_with (first
            | (go_at_call 38; go_loud ((refine (HD.out _ (cell_later (hbel.trans (rb.mono hsz)) HM.out)).mono ?_); rintro e w2 ⟨rfl, hb2⟩; have rb := rb.trans (hb2.mono rb.size); have kk := (hb2.block _ (lt_of_block kk)).trans kk; have y0 := Lib.cell_of_heap kk 0; have y1 := Lib.cell_of_heap kk 1; have y2 := Lib.cell_of_heap kk 2))
            | (go_at_call 40; go_loud ((refine (HN.out _).mono ?_); rintro e w3 ⟨rr, vv, rfl, hrow, hownr, hr, hb3⟩; have rb := (rb.alloc rb.size _).trans (hb3.mono (Nat.le_trans rb.size (heap_size_alloc_le _ _))); have hrr : wr.heap.size < rr := Nat.lt_of_lt_of_le (lt_of_block kk) (Nat.le_trans (heap_size_alloc_le _ _) hr); have kk := (hb3.block _ (Nat.lt_of_lt_of_le (lt_of_block kk) (heap_size_alloc_le _ _))).trans (row_alloc _ kk)))
            | (go_at_call 41; go_loud ((refine (HRep.out rr _ vv _ hrow hownr).mono ?_); rintro e w4 ⟨rfl, hb4⟩; have rb := rb.trans (hb4.mono (Nat.le_of_lt hrr)); have kk := (hb4.block _ hrr).trans kk; have y0 := Lib.cell_of_heap kk 0; have y1 := Lib.cell_of_heap kk 1; have y2 := Lib.cell_of_heap kk 2))
            | (at_builtin; go_loud (refine append_str _ rfl (.tmp 39) (.tmp 41) ssA rfl w.heap.size _ _ rfl (ownsS.alloc (ownsS.below hown rb (Nat.le_refl _)) _) ⟨_, 0, none⟩ 1 1 [_] rfl rfl (cells_new _ _ _) (by first | omega | (simp; done) | (simp; omega)) (by have := rb.size; first | omega | (simp; done) | (simp; omega)) ?_; intro v6 w6 hown6 hg6; have hb6 := Below_grownS (Below.alloc (hbel.trans (rb.mono hsz)) (Nat.le_trans hsz rb.size) _) (ownsS.alloc (ownsS.below hown rb (Nat.le_refl _)) _) hg6 (by have := rb.size; first | omega | (simp; done) | (simp; omega)); clear hg6))
            )
          go_roundg (ys.length - (k + 1))
          case rel => exact ⟨k + 1, _, by omega, by go_num, hown6, hb6, by rw [List.length_append, List.length_singleton]; omega, HX⟩
          case measure => omega
      · have q1 := neS (S := nm) (by omega)
        rw [if_neg (fun e => h0 (by have := congrArg List.length e; rw [dataL] at this; exact this))] at hx
        cases dt with
        | true =>
          have HX := hx (Q ++ ⟨#[32, 60]⟩ ++ (lo ++ (⟨#[64]⟩ ++ dm)) ++ ⟨#[62]⟩) (by rw [if_pos rfl, dL_app, dL_app, dL_app, dL_app, dL_app]; simp)
          clear hx HRep HN
          go_wp2_with (first
            | (go_at_call 38; go_loud ((refine (HD.out _ (cell_later (hbel.trans (rb.mono hsz)) HM.out)).mono ?_); rintro e w2 ⟨rfl, hb2⟩; have rb := rb.trans (hb2.mono rb.size); have kk := (hb2.block _ (lt_of_block kk)).trans kk; have y0 := Lib.cell_of_heap kk 0; have y1 := Lib.cell_of_heap kk 1; have y2 := Lib.cell_of_heap kk 2))
            | (go_at_call 42; go_loud ((refine (HQ.out _ (cell_later (hbel.trans (rb.mono hsz)) HM.out)).mono ?_); rintro e w5 ⟨rfl, hb5⟩; have rb := rb.trans (hb5.mono rb.size)))
            | (at_builtin; go_loud (refine append_str _ rfl (.tmp 39) (.tmp 41) ssA rfl w.heap.size _ _ rfl (ownsS.alloc (ownsS.below hown rb (Nat.le_refl _)) _) ⟨_, 0, none⟩ 1 1 [_] rfl rfl (cells_new _ _ _) (by first | omega | (simp; done) | (simp; omega)) (by have := rb.size; first | omega | (simp; done) | (simp; omega)) ?_; intro v6 w6 hown6 hg6; have hb6 := Below_grownS (Below.alloc (hbel.trans (rb.mono hsz)) (Nat.le_trans hsz rb.size) _) (ownsS.alloc (ownsS.below hown rb (Nat.le_refl _)) _) hg6 (by have := rb.size; first | omega | (simp; done) | (simp; omega)); clear hg6))
            )
          go_roundg (ys.length - (k + 1))
          case rel => exact ⟨k + 1, _, by omega, by go_num, hown6, hb6, by rw [List.length_append, List.length_singleton]; omega, HX⟩
          case measure => omega
        | false =>
          have HX := hx (Q ++ ⟨#[32, 60]⟩ ++ (⟨#[34]⟩ ++ R ++ ⟨#[34]⟩ ++ (⟨#[64]⟩ ++ dm)) ++ ⟨#[62]⟩) (by rw [if_neg (by decide), dL_app, dL_app, dL_app, dL_app, dL_app, dL_app, dL_app]; simp)
          clear hx
          go_wp2_with (first
            | (go_at_call 38; go_loud ((refine (HD.out _ (cell_later (hbel.trans (rb.mono hsz)) HM.out)).mono ?_); rintro e w2 ⟨rfl, hb2⟩; have rb := rb.trans (hb2.mono rb.size); have kk := (hb2.block _ (lt_of_block kk)).trans kk; have y0 := Lib.cell_of_heap kk 0; have y1 := Lib.cell_of_heap kk 1; have y2 := Lib.cell_of_heap kk 2))
            | (go_at_call 40; go_loud ((refine (HN.out _).mono ?_); rintro e w3 ⟨rr, vv, rfl, hrow, hownr, hr, hb3⟩; have rb := (rb.alloc rb.size _).trans (hb3.mono (Nat.le_trans rb.size (heap_size_alloc_le _ _))); have hrr : wr.heap.size < rr := Nat.lt_of_lt_of_le (lt_of_block kk) (Nat.le_trans (heap_size_alloc_le _ _) hr); have kk := (hb3.block _ (Nat.lt_of_lt_of_le (lt_of_block kk) (heap_size_alloc_le _ _))).trans (row_alloc _ kk)))
            | (go_at_call 41; go_loud ((refine (HRep.out rr _ vv _ hrow hownr).mono ?_); rintro e w4 ⟨rfl, hb4⟩; have rb := rb.trans (hb4.mono (Nat.le_of_lt hrr)); have kk := (hb4.block _ hrr).trans kk; have y0 := Lib.cell_of_heap kk 0; have y1 := Lib.cell_of_heap kk 1; have y2 := Lib.cell_of_heap kk 2))
            | (go_at_call 42; go_loud ((refine (HQ.out _ (cell_later (hbel.trans (rb.mono hsz)) HM.out)).mono ?_); rintro e w5 ⟨rfl, hb5⟩; have rb := rb.trans (hb5.mono rb.size)))
            | (at_builtin; go_loud (refine append_str _ rfl (.tmp 39) (.tmp 41) ssA rfl w.heap.size _ _ rfl (ownsS.alloc (ownsS.below hown rb (Nat.le_refl _)) _) ⟨_, 0, none⟩ 1 1 [_] rfl rfl (cells_new _ _ _) (by first | omega | (simp; done) | (simp; omega)) (by have := rb.size; first | omega | (simp; done) | (simp; omega)) ?_; intro v6 w6 hown6 hg6; have hb6 := Below_grownS (Below.alloc (hbel.trans (rb.mono hsz)) (Nat.le_trans hsz rb.size) _) (ownsS.alloc (ownsS.below hown rb (Nat.le_refl _)) _) hg6 (by have := rb.size; first | omega | (simp; done) | (simp; omega)); clear hg6))
            )
          go_roundg (ys.length - (k + 1))
          case rel => exact ⟨k + 1, _, by omega, by go_num, hown6, hb6, by rw [List.length_append, List.length_singleton]; omega, HX⟩
          case measure => omega
    · have hx := hrel.out
      rw [List.take_of_length_le (by omega)] at hx
      have hwl : writeLst (ys.map AdB.lst) = joinA (acc.map fun b => b.data.toList) := by
        rw [hx]; unfold writeLst; rw [List.map_map]; rfl
      have HWL := Lib.hid hwl
      have hJ := joinW_any u3 w.heap.size acc wr hown (by omega) (fun x hxm => by
        have h1 : x.data.toList ∈ acc.map fun b => b.data.toList := List.mem_map_of_mem hxm
        rw [hx] at h1
        obtain ⟨a, ha, he⟩ := List.mem_map.1 h1
        obtain ⟨n1, n2, n3⟩ := HSz.out a ha
        have := writeA_len a.lst
        rw [he] at this
        unfold AdB.lst at this
        simp only [dataL] at this
        omega)
      have HJ := Lib.hid hJ
      clear hJ hwl hx hrel
      go_wp2_with (go_at_call 43; (with_reducible refine HJ.out.mono ?_); rintro e w7 ⟨rfl, hb7⟩)
      go_ret
      exact ⟨by rw [HWL.out]; rfl, hbel.trans (hb7.mono hsz)⟩
end Go.Proofs.YtilccofdphohiaaGreatDoor
namespace Go.Proofs.YtilccofdphohiaaGreatDoor
open Go.RowKit Pk Ad Tk Fo

/-- texts as they are read -/
def TxSees (w : World) (v : Value) (l : List ByteArray) : Prop := ∃ p c, v = .slice p l.length c ∧ l.length ≤ c ∧ (l = [] ∨ ∃ g o, p = some ⟨g, o, none⟩ ∧ ∀ j (hj : j < l.length), w.cell? ⟨g, o + j, none⟩ = some (.string l[j]))
theorem TxSees.later {w w' : World} {v : Value} {l : List ByteArray} (h : TxSees w v l) (hb : Below w.heap.size w w') : TxSees w' v l := by
  obtain ⟨p, c, h1, h2, h3⟩ := h
  refine ⟨p, c, h1, h2, ?_⟩
  rcases h3 with h3 | ⟨g, o, h4, h5⟩
  · exact .inl h3
  · exact .inr ⟨g, o, h4, fun j hj => laterW hb (h5 j hj)⟩
theorem TxSees.of_owns {w : World} {B : Nat} {e : TypeId} {v : Value} {l : List ByteArray} (h : ownsS w B e v l) : TxSees w v l := by
  rcases h.form with ⟨h1, h2⟩ | ⟨g, cap, h1, -, h2, -, h3⟩
  · subst h2; exact ⟨none, 0, h1, Nat.le_refl _, .inl rfl⟩
  · exact ⟨_, cap, h1, h2, .inr ⟨g, 0, rfl, fun j hj => by rw [Nat.zero_add]; exact h3 j hj⟩⟩
theorem ba_extA {a b : ByteArray} (h : a.data.toList = b.data.toList) : a = b := (mk_of (B := a) h).symm.trans (mk_of (B := b) rfl)
def eqT (a b : List ByteArray) : Prop := a = b
theorem eqT_step {a b : List ByteArray} {i : Nat} {X : Bool} (h : Hid (X = true ↔ a.drop i = b.drop i)) (ha : i < a.length) (hb : i < b.length) :
    ((a[i].toList == b[i].toList) = true → Hid (X = true ↔ a.drop (i + 1) = b.drop (i + 1))) ∧ ((a[i].toList == b[i].toList) = false → X = false) := by
  have e := h.out
  rw [List.drop_eq_getElem_cons ha, List.drop_eq_getElem_cons hb] at e
  refine ⟨fun h1 => ?_, fun h1 => ?_⟩
  · rw [beq_iff_eq, Lib.toList_data, Lib.toList_data] at h1
    have h2 := ba_extA h1
    show _ ↔ _
    rw [e, h2]
    exact ⟨fun h => by injection h, fun h => by rw [h]⟩
  · cases X with
    | false => rfl
    | true =>
      have h2 := e.1 rfl
      injection h2 with h2 _
      rw [h2] at h1
      simp at h1
set_option maxRecDepth 100000 in
theorem sameT_any (va vb : Value) (a b : List ByteArray) (w : World) (hA : TxSees w va a) (hB : TxSees w vb b) (la : a.length ≤ 1000000) :
    Calls Tryz.prog 14 #[va, vb] w fun e w' => e = .returned (.bool (decide (a = b))) ∧ Below w.heap.size w w' := by
  obtain ⟨pa, ca, rfl, hca, hA⟩ := hA
  obtain ⟨pb, cb, rfl, hcb, hB⟩ := hB
  by_cases hl : a.length = b.length
  · have q1 : ((a.length : Int) != (b.length : Int)) = false := by rw [hl]; simp
    have hz : Hid (decide (a = b) = true ↔ a.drop 0 = b.drop 0) := by show _ ↔ _; simp
    generalize decide (a = b) = X at hz ⊢
    have HA := Lib.hid hA
    have HB := Lib.hid hB
    have l1 : a.length ≤ b.length := by omega
    have l2 : b.length ≤ a.length := by omega
    clear hA hB hl
    go_enter Tryz.func14, Tryz.ntmps14
    go_wp2
    go_loopw [5] (fun iv wr => ∃ (i : Nat), iv = .int .i64 i ∧ Below w.heap.size w wr ∧ i ≤ a.length ∧ Hid (X = true ↔ a.drop i = b.drop i)) (fun iv _ => a.length - (intOf iv).toNat)
    case atStart => exact ⟨0, by first | rfl | trivial, Below.refl _ _, by omega, hz⟩
    case round =>
      clear hz
      obtain ⟨i, rfl, hbel, hi, hrel⟩ := hrel
      by_cases hlt : i < a.length
      · obtain ⟨s1, s2⟩ := eqT_step hrel hlt (by omega)
        rcases HA.out with h0 | ⟨ga, oa, rfl, hca2⟩
        · rw [h0, List.length_nil] at hlt; omega
        · rcases HB.out with h0 | ⟨gb, ob, rfl, hcb2⟩
          · rw [h0, List.length_nil] at l1; omega
          · have c1 := cell_later hbel (hca2 i hlt)
            have c2 := cell_later hbel (hcb2 i (by omega))
            have hlt2 : i < b.length := by omega
            clear hca2 hcb2
            cases hq : (a[i].toList == b[i].toList) with
            | true =>
              have hd := s1 hq
              clear s1 s2 hrel
              go_wp2
              go_region
              go_wp2
              go_roundw
              case rel => exact ⟨i + 1, by go_num, hbel.drew, by omega, hd⟩
              case measure => simp [intOf]; omega
            | false =>
              obtain rfl := s2 hq
              clear s1 s2 hrel
              go_wp2
              go_region
              go_wp2
              go_ret
              exact ⟨rfl, hbel.drew⟩
      · have e := hrel.out
        rw [List.drop_eq_nil_of_le (show a.length ≤ i by omega), List.drop_eq_nil_of_le (show b.length ≤ i by omega)] at e
        obtain rfl : X = true := e.2 rfl
        clear hrel e
        go_wp2
        go_ret
        exact ⟨rfl, hbel⟩
  · have q1 : ((a.length : Int) != (b.length : Int)) = true := by rw [bne_iff_ne]; omega
    have hX : decide (a = b) = false := decide_eq_false fun h => hl (by rw [h])
    rw [hX]
    clear hA hB hl hX
    go_enter Tryz.func14, Tryz.ntmps14
    go_wp2
    go_ret
    exact ⟨rfl, Below.refl _ _⟩
theorem eqA_step {a b : List AdB} {i : Nat} {X : Bool} (h : Hid (X = true ↔ (a.drop i).map AdB.lst = (b.drop i).map AdB.lst)) (ha : i < a.length) (hb : i < b.length) :
    ((a[i].lst = b[i].lst) → Hid (X = true ↔ (a.drop (i + 1)).map AdB.lst = (b.drop (i + 1)).map AdB.lst)) ∧ (a[i].lst ≠ b[i].lst → X = false) := by
  have e := h.out
  rw [List.drop_eq_getElem_cons ha, List.drop_eq_getElem_cons hb, List.map_cons, List.map_cons] at e
  refine ⟨fun h1 => ?_, fun h1 => ?_⟩
  · show _ ↔ _
    rw [e, h1]
    exact ⟨fun h => by injection h, fun h => by rw [h]⟩
  · cases X with
    | false => rfl
    | true =>
      have h2 := e.1 rfl
      injection h2 with h2 _
      exact absurd h2 h1
theorem lst_eq {x1 x2 x3 y1 y2 y3 : ByteArray} : (AdB.mk x1 x2 x3).lst = (AdB.mk y1 y2 y3).lst ↔ ((x1.toList == y1.toList) = true ∧ (x2.toList == y2.toList) = true ∧ (x3.toList == y3.toList) = true) := by
  rw [beq_iff_eq, beq_iff_eq, beq_iff_eq, Lib.toList_data, Lib.toList_data, Lib.toList_data, Lib.toList_data, Lib.toList_data, Lib.toList_data]
  unfold AdB.lst
  exact ⟨fun h => by injection h with h1 h2 h3; exact ⟨h1, h2, h3⟩, fun ⟨h1, h2, h3⟩ => by rw [h1, h2, h3]⟩
set_option maxRecDepth 100000 in
theorem sameA_any (va vb : Value) (a b : List AdB) (w : World) (hA : AdSees w va a) (hB : AdSees w vb b) (la : a.length ≤ 2000000) :
    Calls Tryz.prog 13 #[va, vb] w fun e w' => e = .returned (.bool (decide (a.map AdB.lst = b.map AdB.lst))) ∧ Below w.heap.size w w' := by
  obtain ⟨pa, ca, rfl, hca, hA⟩ := hA
  obtain ⟨pb, cb, rfl, hcb, hB⟩ := hB
  by_cases hl : a.length = b.length
  · have q1 : ((a.length : Int) != (b.length : Int)) = false := by rw [hl]; simp
    have hz : Hid (decide (a.map AdB.lst = b.map AdB.lst) = true ↔ (a.drop 0).map AdB.lst = (b.drop 0).map AdB.lst) := by show _ ↔ _; simp
    generalize decide (a.map AdB.lst = b.map AdB.lst) = X at hz ⊢
    have HA := Lib.hid hA
    have HB := Lib.hid hB
    have l1 : a.length ≤ b.length := by omega
    have l2 : b.length ≤ a.length := by omega
    clear hA hB hl
    go_enter Tryz.func13, Tryz.ntmps13
    go_wp2
    go_loopw [5] (fun iv wr => ∃ (i : Nat), iv = .int .i64 i ∧ Below w.heap.size w wr ∧ i ≤ a.length ∧ Hid (X = true ↔ (a.drop i).map AdB.lst = (b.drop i).map AdB.lst)) (fun iv _ => a.length - (intOf iv).toNat)
    case atStart => exact ⟨0, by first | rfl | trivial, Below.refl _ _, by omega, hz⟩
    case round =>
      clear hz
      obtain ⟨i, rfl, hbel, hi, hrel⟩ := hrel
      by_cases hlt : i < a.length
      · obtain ⟨s1, s2⟩ := eqA_step hrel hlt (by omega)
        rcases HA.out with h0 | ⟨ga, oa, rfl, hca2⟩
        · rw [h0, List.length_nil] at hlt; omega
        · rcases HB.out with h0 | ⟨gb, ob, rfl, hcb2⟩
          · rw [h0, List.length_nil] at l1; omega
          · have hlt2 : i < b.length := by omega
            obtain ⟨c0, c1, c2⟩ := hca2 i hlt
            obtain ⟨d0, d1, d2⟩ := hcb2 i hlt2
            have c0 := cell_later hbel c0
            have c1 := cell_later hbel c1
            have c2 := cell_later hbel c2
            have d0 := cell_later hbel d0
            have d1 := cell_later hbel d1
            have d2 := cell_later hbel d2
            clear hca2 hcb2
            generalize a[i] = x at *
            generalize b[i] = y at *
            obtain ⟨x1, x2, x3⟩ := x
            obtain ⟨y1, y2, y3⟩ := y
            have c0 : wr.cell? ⟨ga, oa + i * 3, none⟩ = some (.string x1) := c0
            have c1 : wr.cell? ⟨ga, oa + i * 3 + 1, none⟩ = some (.string x2) := c1
            have c2 : wr.cell? ⟨ga, oa + i * 3 + 2, none⟩ = some (.string x3) := c2
            have d0 : wr.cell? ⟨gb, ob + i * 3, none⟩ = some (.string y1) := d0
            have d1 : wr.cell? ⟨gb, ob + i * 3 + 1, none⟩ = some (.string y2) := d1
            have d2 : wr.cell? ⟨gb, ob + i * 3 + 2, none⟩ = some (.string y3) := d2
            rw [lst_eq] at s1
            rw [ne_eq, lst_eq] at s2
            cases hq1 : (x1.toList == y1.toList) with
            | true =>
              cases hq2 : (x2.toList == y2.toList) with
              | true =>
                cases hq3 : (x3.toList == y3.toList) with
                | true =>
                  have hd := s1 ⟨hq1, hq2, hq3⟩
                  clear s1 s2 hrel
                  go_wp2
                  go_region
                  go_wp2
                  go_roundw
                  case rel => exact ⟨i + 1, by go_num, hbel.drew, by omega, hd⟩
                  case measure => simp [intOf]; omega
                | false =>
                  obtain rfl := s2 (fun h => by rw [hq3] at h; exact absurd h.2.2 (by decide))
                  clear s1 s2 hrel
                  go_wp2
                  go_region
                  go_wp2
                  go_ret
                  exact ⟨rfl, hbel.drew⟩
              | false =>
                obtain rfl := s2 (fun h => by rw [hq2] at h; exact absurd h.2.1 (by decide))
                clear s1 s2 hrel
                go_wp2
                go_region
                go_wp2
                go_ret
                exact ⟨rfl, hbel.drew⟩
            | false =>
              obtain rfl := s2 (fun h => by rw [hq1] at h; exact absurd h.1 (by decide))
              clear s1 s2 hrel
              go_wp2
              go_region
              go_wp2
              go_ret
              exact ⟨rfl, hbel.drew⟩
      · have e := hrel.out
        rw [List.drop_eq_nil_of_le (show a.length ≤ i by omega), List.drop_eq_nil_of_le (show b.length ≤ i by omega)] at e
        obtain rfl : X = true := e.2 rfl
        clear hrel e
        go_wp2
        go_ret
        exact ⟨rfl, hbel⟩
  · have q1 : ((a.length : Int) != (b.length : Int)) = true := by rw [bne_iff_ne]; omega
    have hX : decide (a.map AdB.lst = b.map AdB.lst) = false := decide_eq_false fun h => hl (by have := congrArg List.length h; simpa using this)
    rw [hX]
    clear hA hB hl hX
    go_enter Tryz.func13, Tryz.ntmps13
    go_wp2
    go_ret
    exact ⟨rfl, Below.refl _ _⟩
end Go.Proofs.YtilccofdphohiaaGreatDoor
