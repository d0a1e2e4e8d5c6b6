/- A strings.Builder whose row lies from block G on: what is below G (but the builder's own block) stands through a WriteByte. -/
import Derived.Test.YtjoipgekmnnlpaaGreatDoorBld
import Derived.Lib.FrozenHead2
namespace Go.Proofs.YtjoipgekmnnlpaaGreatDoor
open Go.RowKit Pk

def BldR (w : World) (G b : Nat) (l : List UInt8) : Prop := ∃ p v, (p = .pointer none ∨ p = .pointer (some ⟨b, 0, none⟩)) ∧ w.heap[b]? = some (.cells #[p, v] 69 (0, 0)) ∧ w.ownsRowF G 5 1 v l.length (Lib.byteCells l)
def KeptUnder (G b : Nat) (w w' : World) : Prop := ∀ k, k < G → k ≠ b → w'.heap[k]? = w.heap[k]?
theorem KeptUnder.refl (G b : Nat) (w : World) : KeptUnder G b w w := fun _ _ _ => rfl
theorem KeptUnder.trans {G b : Nat} {w w1 w2 : World} (h : KeptUnder G b w w1) (g : KeptUnder G b w1 w2) : KeptUnder G b w w2 := fun k h1 h2 => (g k h1 h2).trans (h k h1 h2)
theorem KeptUnder.cell {G b : Nat} {w w' : World} (h : KeptUnder G b w w') {k : Nat} (h1 : k < G) (h2 : k ≠ b) (j : Nat) : w'.cell? ⟨k, j, none⟩ = w.cell? ⟨k, j, none⟩ := by
  unfold World.cell?; rw [h k h1 h2]
theorem BldR.lt {w : World} {G b : Nat} {l : List UInt8} (h : BldR w G b l) : b < w.heap.size := by
  obtain ⟨p, v, _, h2, _⟩ := h
  exact lt_of_block h2
theorem BldR.bld {w : World} {B G b : Nat} {l : List UInt8} (h : BldR w G b l) (h1 : B ≤ b) (h2 : B ≤ G) : Bld w B b l := by
  obtain ⟨p, v, hp, hb, hown⟩ := h
  have hne := Lib.ownBlock_neF hown hb (by decide)
  have ho : w.ownsRowF B 5 1 v (Lib.byteCells l).length (Lib.byteCells l) := by
    rw [Lib.byteCells_length]
    refine ⟨hown.1, ?_⟩
    rcases hown.2 with hn | ⟨g, cap, cur, fz, e1, e2, e3⟩
    · exact .inl hn
    · exact .inr ⟨g, cap, cur, fz, e1, by omega, e3⟩
  rcases hp with rfl | rfl
  · exact Or.inl ⟨h1, v, hb, ho, hne⟩
  · exact Or.inr ⟨h1, v, hb, ho, hne⟩
theorem BldR.new {w : World} {G b : Nat} (hb : w.heap[b]? = some (.cells #[.pointer none, .slice none 0 0] 69 (0, 0))) : BldR w G b [] :=
  ⟨_, _, Or.inl rfl, hb, World.ownsRowF_nil _ _ _ _⟩
theorem BldR.below {w w' : World} {G b C : Nat} {l : List UInt8} (h : BldR w G b l) (hb : Below C w w') (hC : w.heap.size ≤ C) : BldR w' G b l := by
  obtain ⟨p, v, hp, hbk, hown⟩ := h
  have hlt := lt_of_block hbk
  refine ⟨p, v, hp, (hb.block b (by omega)).trans hbk, hown.1, ?_⟩
  rcases hown.2 with hn | ⟨g, cap, cur, fz, e1, e2, e3, e4⟩
  · exact .inl hn
  · have hg := lt_of_block e3
    exact .inr ⟨g, cap, cur, fz, e1, e2, (hb.block g (by omega)).trans e3, e4⟩

theorem ccR (B G b : Nat) (l : List UInt8) (w : World) (h : BldR w G b l) (hb : B ≤ b) :
    Calls Tryz.prog 55 #[.pointer (some ⟨b, 0, none⟩)] w fun e w' => e = .returned (.tuple #[]) ∧ (∃ v, w'.heap[b]? = some (.cells #[.pointer (some ⟨b, 0, none⟩), v] 69 (0, 0)) ∧ w'.ownsRowF G 5 1 v l.length (Lib.byteCells l)) ∧ Below B w w' ∧ KeptUnder G b w w' ∧ w'.heap.size = w.heap.size := by
  obtain ⟨p, v, hp, hbk, hown⟩ := h
  have hne := Lib.ownBlock_neF hown hbk (by decide)
  have c0 : w.cell? ⟨b, 0, none⟩ = some p := (Lib.cell_of_heap hbk _).trans rfl
  rcases hp with rfl | rfl
  · refine (Any.Builder_copyCheck_fresh { Tryz.hays167 with } Tryz.hextra167.toX72 b w c0 (by simp [World.shape?, hbk]; rfl) (by simp [World.frozen?, hbk])).mono ?_
    rintro e w' ⟨rfl, rfl⟩
    refine ⟨rfl, ⟨v, by simp [World.setCell, Array.getElem?_modify, hbk], hown.kept (row := some b) ⟨rfl, rfl, rfl, by simp [World.setCell], fun k _ hk => Below.heap_setCell _ _ _ _ (fun e => hk (by simp [e]))⟩ (Or.inr hne)⟩, (Below.refl B w).setCell (p := ⟨b, 0, none⟩) hb _, fun k _ hk => Below.heap_setCell _ _ _ _ hk, by simp⟩
  · refine (Any.Builder_copyCheck_used { Tryz.hays167 with } Tryz.hextra167.toX72 b w c0).mono ?_
    rintro e w' ⟨rfl, rfl⟩
    exact ⟨rfl, ⟨v, hbk, hown⟩, Below.refl B _, KeptUnder.refl _ _ _, rfl⟩

theorem one_new (w : World) (c : Value) (e : TypeId) (j : Nat) (u : Value) (hj : [c][j]? = some u) : (w.alloc (.cells #[c] e)).cell? ((⟨w.heap.size, 0, none⟩ : Addr).add j) = some u := by
  match j, hj with
  | 0, hj => simp at hj; subst hj; simp [Addr.add]
theorem one_one {k : IntKind} (n : Int) : ∀ u ∈ [Value.int k n], u.oneCell' = true := by
  intro u hu; simp at hu; subst hu; rfl
theorem wslR {w : World} {B : Nat} {e : TypeId} {size : Nat} {v : Value} {n : Nat} {xs : List Value} (h : w.ownsRowF B e size v n xs) (hn : 0 < n) : ∃ g cap, v = .slice (some ⟨g, 0, none⟩) n cap := by
  rcases h.2 with ⟨_, h0⟩ | ⟨g, cap, cur, fz, hv, _⟩
  · omega
  · exact ⟨g, cap, hv⟩
theorem after_row {w1 w2 : World} {b : Nat} {p v : Value} {T : TypeId} {o : Obj} (hbk : w1.heap[b]? = some (.cells #[p, v] T (0, 0))) (hgrow : (w1.alloc o).grownBy w2 v.ownBlock) (hne : v.ownBlock ≠ some b) :
    w2.heap[b]? = some (.cells #[p, v] T (0, 0)) ∧ w2.cell? ⟨b, 0, none⟩ = some p ∧ w2.cell? ⟨b, 1, none⟩ = some v ∧ w2.frozen? ⟨b, 1, none⟩ = false := by
  have hlt : b < w1.heap.size := lt_of_block hbk
  have h : w2.heap[b]? = some (.cells #[p, v] T (0, 0)) := by
    rw [hgrow.block b (by simp; omega) (fun e => hne e.symm)]
    exact (heap_alloc_old w1 _ hlt).trans hbk
  exact ⟨h, (Lib.cell_of_heap h _).trans rfl, (Lib.cell_of_heap h _).trans rfl, by simp [World.frozen?, h]⟩
set_option maxHeartbeats 2000000 in
set_option maxRecDepth 100000 in
theorem wbR (B G b : Nat) (l : List UInt8) (c : UInt8) (w : World) (h : BldR w G b l) (hlen : l.length + 1 ≤ 140737488355328) (hG : G ≤ w.heap.size) (hBb : B ≤ b) (hBG : B ≤ G) :
    Calls Tryz.prog 132 #[.pointer (some ⟨b, 0, none⟩), .int .u8 c.toNat] w fun e w' => e = .returned .nilIface ∧ BldR w' G b (l ++ [c]) ∧ Below B w w' ∧ KeptUnder G b w w' := by
  obtain ⟨i0, hi, hz0, hz1, hz2⟩ := info_parts Tryz.hextra167.infoByte
  go_enter Tryz.func132, Tryz.ntmps132
  go_wp2_with (go_at_call 55; refine (ccR B G b l _ h hBb).mono ?_)
  rintro e w1 ⟨rfl, ⟨v, hbk, hown⟩, hb1, hk1, hs1⟩
  have hs2 : G ≤ w1.heap.size := by omega
  clear hs1
  have hne := Lib.ownBlock_neF hown hbk (by decide)
  have hlt : b < w1.heap.size := lt_of_block hbk
  have c0 : w1.cell? ⟨b, 0, none⟩ = some (.pointer (some ⟨b, 0, none⟩)) := (Lib.cell_of_heap hbk _).trans rfl
  have c1 : w1.cell? ⟨b, 1, none⟩ = some v := (Lib.cell_of_heap hbk _).trans rfl
  go_wp2_with (at_builtin; go_must (refine wpList_append_ownF _ rfl (.tmp 11) (.tmp 13) 67 rfl G 5 i0 (.int .u8 0) 1 1 Tryz.underlying67 hi hz0 hz1 hz2 rfl (by decide) v _ _ rfl (hown.alloc _) ⟨w1.heap.size, 0, none⟩ 1 1 [.int .u8 c.toNat] rfl rfl (fun j u hj => one_new _ _ _ j u hj) (one_one _) (by unfold maxLen; omega) (by omega) (by simp; omega) ?_); intro v' w2 hown' hgrow _; obtain ⟨g, cap, rfl⟩ := wslR hown' (by omega); obtain ⟨hbk2, d0, d1, f1⟩ := after_row hbk hgrow hne)
  go_ret
  have hge : ∀ k, v.ownBlock = some k → G ≤ k := fun k hk => (hown.lt k hk).1
  refine ⟨rfl, ⟨.pointer (some ⟨b, 0, none⟩), .slice (some ⟨g, 0, none⟩) (l.length + 1) cap, Or.inr rfl, ?_, ?_⟩, ?_, ?_⟩
  · simp [World.setCell, Array.getElem?_modify, hbk2]
  · have hne' := Lib.ownBlock_neF hown' hbk2 (by decide)
    have e1 : Lib.byteCells (l ++ [c]) = Lib.byteCells l ++ [.int .u8 c.toNat] := by rw [Lib.byteCells_append]; rfl
    rw [e1, List.length_append]
    exact hown'.kept (row := some b) ⟨rfl, rfl, rfl, by simp [World.setCell], fun k _ hk => Below.heap_setCell _ _ _ _ (fun e => hk (by simp [e]))⟩ (Or.inr hne')
  · exact ((hb1.alloc (by omega) _).grown hgrow (by simp; omega) (fun k hk => by have := hge k hk; omega)).setCell (p := ⟨b, 1, none⟩) hBb _
  · intro k hk hkb
    rw [Below.heap_setCell _ _ _ _ hkb, hgrow.block k (by simp; omega) (fun e => by have := hge k e.symm; omega), ← hk1 k hk hkb]
    exact heap_alloc_old w1 _ (by omega)
end Go.Proofs.YtjoipgekmnnlpaaGreatDoor
