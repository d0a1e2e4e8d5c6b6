/- (*strings.Builder).Write at this translation: a walk like the shelf's of WriteByte. -/
import Derived.Test.YtnclbbgdfaeilaaGreatDoorBld
import Derived.OneCell
import Derived.Lib.BufferWrite
import Derived.Deep.RegionHeld
namespace Go.Proofs.YtnclbbgdfaeilaaGreatDoor
open Go.RowKit Pk

theorem cc_any (B b : Nat) (bs : List Value) (w : World) (h : Lib.IsBuilderF 48 5 B b bs w) :
    Calls Tryz.prog 62 #[.pointer (some ⟨b, 0, none⟩)] w fun e w' => e = .returned (.tuple #[]) ∧ Lib.BuilderAtF 48 5 B b (.pointer (some ⟨b, 0, none⟩)) bs w' ∧ Below B w w' ∧ Lib.OthersKept 5 (some b) w w' ∧ w'.heap.size = w.heap.size ∧ ∀ a : Addr, a.block ≠ b → w'.cell? a = w.cell? a := by
  rcases h with h | h
  · refine (Any.Builder_copyCheck_fresh { Tryz.hays167 with } Tryz.hextra167.toX72 b w h.cell0 h.shape h.frozen0).mono ?_
    rintro e w' ⟨rfl, rfl⟩
    exact ⟨rfl, h.used _, (Below.refl B w).setCell (p := ⟨b, 0, none⟩) h.1 _, (Lib.OthersKept.refl _ _ w).setCell ⟨b, 0, none⟩ rfl _, by simp, fun a ha => World.cell?_setCell_far _ _ _ _ (Ne.symm ha)⟩
  · refine (Any.Builder_copyCheck_used { Tryz.hays167 with } Tryz.hextra167.toX72 b w h.cell0).mono ?_
    rintro e w' ⟨rfl, rfl⟩
    exact ⟨rfl, h, Below.refl B _, Lib.OthersKept.refl _ _ _, rfl, fun _ _ => rfl⟩

theorem wslice {w : World} {B : Nat} {e : TypeId} {size : Nat} {v : Value} {n : Nat} {xs : List Value} (h : w.ownsRowF B e size v n xs) (hn : 0 < n) : ∃ g cap, v = .slice (some ⟨g, 0, none⟩) n cap := by
  rcases h.2 with ⟨_, h0⟩ | ⟨g, cap, cur, fz, hv, _⟩
  · omega
  · exact ⟨g, cap, hv⟩
set_option maxHeartbeats 2000000 in
set_option maxRecDepth 100000 in
theorem bwrite (B b gs n : Nat) (l ds : List UInt8) (w : World) (h : Bld w B b l) (hds : ds.length = n) (hc : ∀ j u, (Lib.byteCells ds)[j]? = some u → w.cell? ((⟨gs, 0, none⟩ : Addr).add j) = some u) (hne' : gs ≠ b) (h1 : 0 < n) (hlen : l.length + n ≤ 140737488355328) (hBw : B ≤ w.heap.size) :
    Calls Tryz.prog 99 #[.pointer (some ⟨b, 0, none⟩), .slice (some ⟨gs, 0, none⟩) n n] w fun e w' => e = .returned (.tuple #[.int .i64 n, .nilIface]) ∧ Bld w' B b (l ++ ds) ∧ Below B w w' ∧ Lib.OthersKept 5 (some b) w w' := by
  obtain ⟨i0, hi, hz0, hz1, hz2⟩ := info_parts Tryz.hextra167.infoByte
  go_enter Tryz.func99, Tryz.ntmps99
  go_wp2_with (go_at_call 62; refine (cc_any B b (Lib.byteCells l) _ h).mono ?_)
  rintro e w1 ⟨rfl, ⟨hB, v, hbk, hown, hne⟩, hb1, hk1, hs1, hcc⟩
  have c0 : w1.cell? ⟨b, 0, none⟩ = some (.pointer (some ⟨b, 0, none⟩)) := by rw [Lib.cell_of_heap hbk]; rfl
  have c1 : w1.cell? ⟨b, 1, none⟩ = some v := by rw [Lib.cell_of_heap hbk]; rfl
  go_wp2_with (first
    | (at_builtin; go_must (refine wpList_append_ownF _ rfl (.tmp 12) (.tmp 13) 46 rfl B 5 i0 (.int .u8 0) 1 1 Tryz.underlying46 hi hz0 hz1 hz2 rfl (by decide) v _ _ rfl hown ⟨gs, 0, none⟩ n n (Lib.byteCells ds) rfl (by rw [Lib.byteCells_length, hds, Nat.mul_one]) (fun j u hj => by rw [hcc _ (by rw [Addr.add_lit]; exact hne')]; exact hc j u hj) (Lib.byteCells_one _) (by rw [Lib.byteCells_length]; unfold maxLen; omega) (by rw [Lib.byteCells_length]; omega) (by omega) ?_; intro v' w2 hown' hgrow hnil; obtain ⟨g, cap, rfl⟩ := wslice hown' (by omega); have hlt : b < w1.heap.size := lt_of_block hbk; have hb2 : w2.heap[b]? = some (.cells #[.pointer (some ⟨b, 0, none⟩), v] 48 (0, 0)) := (hgrow.block b hlt (fun e => hne e.symm)).trans hbk; have d0 : w2.cell? ⟨b, 0, none⟩ = some (.pointer (some ⟨b, 0, none⟩)) := (Lib.cell_of_heap hb2 _).trans rfl; have d1 : w2.cell? ⟨b, 1, none⟩ = some v := (Lib.cell_of_heap hb2 _).trans rfl; have f1 : w2.frozen? ⟨b, 1, none⟩ = false := Lib.frozen_of_heap hb2 1)))
  go_ret2
  refine ⟨rfl, Or.inr ?_, ?_, ((hk1).grown hgrow (Lib.ownsRowF_kind hown)).setCell ⟨b, 1, none⟩ rfl _⟩
  · have hb' := Lib.BuilderAtF.put (T := 48) (e := 5) (bs' := Lib.byteCells (l ++ ds)) hB hb2 (by rw [Lib.byteCells_append, List.length_append, Lib.byteCells_length, Lib.byteCells_length, hds]; rw [Lib.byteCells_length] at hown'; exact hown') (by decide)
    simpa [Lib.byteCells_length, hds] using hb'
  · exact (hb1.grown hgrow (by omega) (fun k hk => (hown.lt k hk).1)).setCell (p := ⟨b, 1, none⟩) hB _
end Go.Proofs.YtnclbbgdfaeilaaGreatDoor
