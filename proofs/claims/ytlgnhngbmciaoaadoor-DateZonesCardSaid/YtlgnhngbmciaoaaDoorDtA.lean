/- Walks: dates: great, the two-digit closure; what the tables hold; Join of six. -/
import Derived.Test.YtlgnhngbmciaoaaDoorPad7
import Derived.Test.YtlgnhngbmciaoaaDoorDt9
import Derived.Test.YtlgnhngbmciaoaaDoorDt8
import Derived.Deep.RegionWith
import Derived.RegionCalls
namespace Go.Proofs.YtlgnhngbmciaoaaDoor
open Go.RowKit Pk Dt C1

def wdB (j : Nat) : ByteArray := ⟨((wdays[j]?).getD []).toArray⟩
def moB (j : Nat) : ByteArray := ⟨((mons[j]?).getD []).toArray⟩
def wdGB (j : Nat) : ByteArray := ⟨((wdG[j]?).getD []).toArray⟩
def moGB (j : Nat) : ByteArray := ⟨((moG[j]?).getD []).toArray⟩
/-- what the listed variables hold -/
structure Rd7 (w : World) : Prop where
  tab : Tab w
  max : ∃ m : Int, w.cell? ⟨2, 0, none⟩ = some (.int .i64 m)
  wd : ∀ j, j < 7 → w.cell? ⟨0, j, none⟩ = some (.string (wdB j))
  mo : ∀ j, j < 12 → w.cell? ⟨1, j, none⟩ = some (.string (moB j))
theorem Rd7.later {w w' : World} {B : Nat} (h : Rd7 w) (hb : Below B w w') (hB : w.heap.size ≤ B) : Rd7 w' :=
  ⟨h.tab.later (hb.mono hB), let ⟨m, hm⟩ := h.max; ⟨m, laterC (hb.mono hB) hm⟩, fun j hj => laterC (hb.mono hB) (h.wd j hj), fun j hj => laterC (hb.mono hB) (h.mo j hj)⟩
theorem Rd7.late {w w' : World} (h : Rd7 w) (hb : Below w.heap.size w w') : Rd7 w' := h.later hb (Nat.le_refl _)
theorem great_any (s : ByteArray) (w : World) (h0 : 0 < s.size) (hs : s.size ≤ 100) (ha : ∀ c ∈ s.data.toList, c.toNat < 128) :
    Calls Tryd.prog 18 #[.string s] w fun e w' => e = .returned (.string ⟨(Lib.toUpperA (s.data.toList.take 1) ++ s.data.toList.drop 1).toArray⟩) ∧ Below w.heap.size w w' := by
  have hU := fun w => Tryd.strings_ToUpper_ascii (s.extract 0 1) w (by rw [ext_size]; omega) (fun j b hb => ha b (by
    rw [ext_to] at hb
    exact List.mem_of_mem_take (List.mem_of_getElem? hb)))
  have e1 : (s.extract 0 1).data.toList = s.data.toList.take 1 := by rw [ext_to]
  rw [e1] at hU
  have hl : (Lib.toUpperA (s.data.toList.take 1)).length ≤ 1 := by unfold Lib.toUpperA; rw [List.length_map, List.length_take]; omega
  obtain ⟨U, hU0, hU1, hU2⟩ := arr_ex1 (Lib.toUpperA (s.data.toList.take 1))
  have hUs : U.size ≤ 1 := by omega
  rw [← hU0] at hU
  have hR : (⟨(Lib.toUpperA (s.data.toList.take 1) ++ s.data.toList.drop 1).toArray⟩ : ByteArray) = U ++ s.extract 1 s.size := by
    rw [← app_mk, ← hU0]
    congr 1
    rw [ext_eq, List.take_of_length_le (by rw [List.length_drop, dataL]; omega)]
  have HU := Lib.hid hU
  have HR := Lib.hid hR
  have hes : (s.extract 1 s.size).size ≤ 100 := by rw [ext_size]; omega
  have z1 : (1 : Int) ≤ (s.size : Int) := by omega
  clear hU hR e1 hl hU0 hU1 hU2 ha
  go_enter Tryd.func18, Tryd.ntmps18
  go_wp2
  go_region_with (go_at_call 35; (with_reducible refine (HU.out _).mono ?_); rintro e w1 ⟨rfl, hb1⟩)
  all_goals
    go_wp2
    go_ret
    rw [HR.out]
    exact ⟨rfl, Below.trans (Below.refl _ _).drew hb1⟩
theorem great_wd (j : Nat) (w : World) (hj : j < 7) : Calls Tryd.prog 18 #[.string (wdB j)] w fun e w' => e = .returned (.string (wdGB j)) ∧ Below w.heap.size w w' := by
  have h : ∀ j, j < 7 → 0 < (wdB j).size ∧ (wdB j).size ≤ 100 ∧ (∀ c ∈ (wdB j).data.toList, c.toNat < 128) ∧ Lib.toUpperA ((wdB j).data.toList.take 1) ++ (wdB j).data.toList.drop 1 = (wdG[j]?).getD [] := by decide +kernel
  obtain ⟨h1, h2, h3, h4⟩ := h j hj
  have := great_any (wdB j) w h1 h2 h3
  rw [h4] at this
  exact this
theorem great_mo (j : Nat) (w : World) (hj : j < 12) : Calls Tryd.prog 18 #[.string (moB j)] w fun e w' => e = .returned (.string (moGB j)) ∧ Below w.heap.size w w' := by
  have h : ∀ j, j < 12 → 0 < (moB j).size ∧ (moB j).size ≤ 100 ∧ (∀ c ∈ (moB j).data.toList, c.toNat < 128) ∧ Lib.toUpperA ((moB j).data.toList.take 1) ++ (moB j).data.toList.drop 1 = (moG[j]?).getD [] := by decide +kernel
  obtain ⟨h1, h2, h3, h4⟩ := h j hj
  have := great_any (moB j) w h1 h2 h3
  rw [h4] at this
  exact this
theorem padL_le {n : Int} (h0 : -9223372036854775808 ≤ n) (h1 : n ≤ 9223372036854775807) (wd : Int) (hw : wd ≤ 100) : (padL n wd).length ≤ 120 := by
  unfold padL
  split
  · simp
  · rw [List.length_append, List.length_replicate]
    have := itoa_len h0 h1
    omega
theorem two_any (n : Int) (w : World) (h0 : -9223372036854775808 ≤ n) (h1 : n ≤ 9223372036854775807) (ht : Tab w) : Calls Tryd.prog 15 #[.int .i64 n] w fun e w' => e = .returned (.string ⟨(padL n 2).toArray⟩) ∧ Below w.heap.size w w' := by
  have hp := pad_any n 2 w h0 h1 ht
  obtain ⟨U, hU0, -, -⟩ := arr_ex1 (padL n 2)
  rw [← hU0] at hp ⊢
  have HP := Lib.hid hp
  clear hp ht hU0
  go_enter Tryd.func15, Tryd.ntmps15
  go_wp2_with (go_at_call 16; (with_reducible refine HP.out.mono ?_); rintro e w1 ⟨rfl, hb1⟩)
  go_ret
  exact ⟨rfl, hb1⟩
theorem two_d2 (n : Nat) (w : World) (h : n < 100) (ht : Tab w) (D : ByteArray) (hD : D = ⟨(d2 n).toArray⟩) : Calls Tryd.prog 15 #[.int .i64 n] w fun e w' => e = .returned (.string D) ∧ Below w.heap.size w w' := by
  have := two_any n w (by omega) (by omega) ht
  rw [pad2_d2 h, ← hD] at this
  exact this
theorem join_six (A B C D E F : ByteArray) (hA : A.size ≤ 1000) (hB : B.size ≤ 1000) (hC : C.size ≤ 1000) (hD : D.size ≤ 1000) (hE : E.size ≤ 1000) (hF : F.size ≤ 1000) (g : Nat) (w : World) (c0 : w.cell? ⟨g, 0, none⟩ = some (.string A)) (c1 : w.cell? ⟨g, 1, none⟩ = some (.string B)) (c2 : w.cell? ⟨g, 2, none⟩ = some (.string C)) (c3 : w.cell? ⟨g, 3, none⟩ = some (.string D)) (c4 : w.cell? ⟨g, 4, none⟩ = some (.string E)) (c5 : w.cell? ⟨g, 5, none⟩ = some (.string F)) :
    Calls Tryd.prog 17 #[.slice (some ⟨g, 0, none⟩) 6 6, .string ⟨#[32]⟩] w fun e w' => e = .returned (.string ⟨(A.data.toList ++ 32 :: (B.data.toList ++ 32 :: (C.data.toList ++ 32 :: (D.data.toList ++ 32 :: (E.data.toList ++ 32 :: F.data.toList))))).toArray⟩) ∧ Below w.heap.size w w' := by
  have he : Lib.join ([A, B, C, D, E, F].map (·.data.toList)) (⟨#[32]⟩ : ByteArray).data.toList = A.data.toList ++ 32 :: (B.data.toList ++ 32 :: (C.data.toList ++ 32 :: (D.data.toList ++ 32 :: (E.data.toList ++ 32 :: F.data.toList)))) := by
    simp [Lib.join]
  have hj := Tryd.strings_Join g 0 6 [A, B, C, D, E, F] ⟨#[32]⟩ w (fun j x hx => by
    rw [Nat.zero_add]
    match j, hx with
    | 0, hx => simp at hx; rw [← hx]; exact c0
    | 1, hx => simp at hx; rw [← hx]; exact c1
    | 2, hx => simp at hx; rw [← hx]; exact c2
    | 3, hx => simp at hx; rw [← hx]; exact c3
    | 4, hx => simp at hx; rw [← hx]; exact c4
    | 5, hx => simp at hx; rw [← hx]; exact c5
    | j + 6, hx => simp at hx) (World.block_lt_of_cell? _ _ c0) (by simp) (by simp) (by
      rw [he]
      simp only [List.length_append, List.length_cons, dataL]
      omega)
  rw [he] at hj
  exact hj
end Go.Proofs.YtlgnhngbmciaoaaDoor
