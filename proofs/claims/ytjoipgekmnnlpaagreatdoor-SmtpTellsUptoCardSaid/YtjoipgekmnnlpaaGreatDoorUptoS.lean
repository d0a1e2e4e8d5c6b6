/- What the second forms of chapter 22's laws open: short strings in a slice. -/
import Derived.Test.YtjoipgekmnnlpaaGreatDoorWorld22
namespace Go.Proofs.YtjoipgekmnnlpaaGreatDoor
open Go.ChangeShapes Go.WideShapes Go.ChangeAt Go.RowKit Lib Sm

theorem bulk_each {H : Type} {l : List (DataW H)} (h : Rows.uptoSmall H l = true) : ∀ d ∈ l, Rows.uptoBulk d ≤ 1048576 := by
  have h : Rows.uptoBulkAll l ≤ 1048576 := of_decide_eq_true h
  have key : ∀ (l : List (DataW H)), ∀ d ∈ l, Rows.uptoBulk d ≤ Rows.uptoBulkAll l := by
    intro l
    induction l with
    | nil => intro d hd; cases hd
    | cons x r ih =>
      intro d hd
      simp only [Rows.uptoBulkAll]
      rcases List.mem_cons.1 hd with rfl | hd
      · omega
      · have := ih d hd; omega
  intro d hd
  exact Nat.le_trans (key l d hd) h
theorem bulk_str {H : Type} : ∀ (l : List ByteArray), ∀ s ∈ l, s.size ≤ Rows.uptoBulkAll (H := H) (strs l)
  | [], _, h => by cases h
  | x :: r, s, h => by
    have e : Rows.uptoBulkAll (H := H) (strs (x :: r)) = (x.data.toList.length + 1) + Rows.uptoBulkAll (H := H) (strs r) := by
      show Rows.uptoBulkAll (.lit (.string x.data.toList) :: strs r) = _
      simp only [Rows.uptoBulkAll, Rows.uptoBulk]
    rw [e]
    have e1 : x.data.toList.length = x.size := rfl
    rcases List.mem_cons.1 h with rfl | h
    · omega
    · have := bulk_str (H := H) r s h; omega
set_option maxRecDepth 100000 in
theorem strIn_of {H : Type} {enc : TypeId × Value → H} {W : World} {v : Value} {d : DataW H} {p : List MemPlace} {base : Nat} (hv : Value.okWide Tryz.prog W .any base 22 v) (h : DataW.Trod enc Tryz.prog W 0 (fun _ => true) true 22 v d p) (hk : Rows.uptoBulk d ≤ 1048576) : ∃ ns : List ByteArray, StrIn W v ns := by
  obtain ⟨fuel, hf⟩ := h
  obtain ⟨a0, len0, cap0, rfl⟩ := WideShapes.okWide_slice Tryz.underlying22 hv
  rcases ChangeShapes.open_strings Tryz.underlying22 Tryz.underlying9 (by kernel_rfl) hf with ⟨hc, -⟩ | ⟨a, len, cap, zs, hc, -, h1, h2, h3, hx, h4, -⟩
  · have hc : Value.slice a0 len0 cap0 = .slice none 0 0 := List.head_eq_of_cons_eq hc
    exact ⟨[], ⟨none, 0, hc, Nat.le_refl _, .inl rfl⟩, fun x hx => by cases hx⟩
  · have hc : Value.slice a0 len0 cap0 = .slice (some a) len cap := List.head_eq_of_cons_eq hc
    rw [if_pos rfl] at h3
    have hl : (zs.take len).length = len := by rw [List.length_take]; omega
    have hd : d = .slice (strs (zs.take len)) (strs (zs.drop len)) := congrArg Prod.fst hx
    have hsz : ∀ x ∈ zs.take len, x.size ≤ 1048576 := fun x hx => by
      have h7 := bulk_str (H := H) _ x hx
      rw [hd] at hk
      simp only [Rows.uptoBulk] at hk
      omega
    refine ⟨zs.take len, ⟨some a, cap, by rw [hl]; exact hc, by rw [hl]; exact h1, ?_⟩, hsz⟩
    by_cases h0 : len = 0
    · left; rw [h0, List.take_zero]
    · right
      obtain ⟨b, off, spot⟩ := a
      have hspot : spot = none := by simpa [Addr.add] using World.cell?_spot (h4 0 (by omega))
      subst hspot
      refine ⟨b, off, rfl, fun j hj => ?_⟩
      rw [hl] at hj
      rw [← Go.WideShapes.add_plain, h4 j (by omega), List.getElem_take]
      congr 2
      rw [List.getD_eq_getElem?_getD, List.getElem?_eq_getElem (by omega)]; rfl
end Go.Proofs.YtjoipgekmnnlpaaGreatDoor
