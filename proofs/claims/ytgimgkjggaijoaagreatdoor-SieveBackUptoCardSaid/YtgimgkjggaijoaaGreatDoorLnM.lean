/- Walks: lines: mapLines with the closures of Stuff and Unstuff; Bare. -/
import Derived.Test.YtgimgkjggaijoaaGreatDoorLnC
import Derived.Test.YtgimgkjggaijoaaGreatDoorLxB
import Derived.Test.YtgimgkjggaijoaaGreatDoorLxW2
namespace Go.Proofs.YtgimgkjggaijoaaGreatDoor
open Go.RowKit Go.Shelf Pk Lx

attribute [local go_sem] Oper.semAt_some
theorem lt_blockX {w : World} {i : Nat} {o : Obj} (h : w.heap[i]? = some o) : i < w.heap.size := (Array.getElem?_eq_some_iff.1 h).1
theorem bldAt_keeps {w w' : World} {B b : Nat} {p : Value} {bs : List Value} {T e : TypeId} (h : Lib.BuilderAtF T e B b p bs w) (hk : ∀ (i : Nat) (cs : Array Value) (t : TypeId) (fz : Nat × Nat), w.heap[i]? = some (Obj.cells cs t fz) → (t = T ∨ t = e) → w'.heap[i]? = w.heap[i]?) : Lib.BuilderAtF T e B b p bs w' := by
  obtain ⟨hB, v, hbk, hown, hne⟩ := h
  refine ⟨hB, v, (hk b _ _ _ hbk (.inl rfl)).trans hbk, ⟨hown.1, ?_⟩, hne⟩
  rcases hown.2 with hn | ⟨g, cap, cur, fz, h1, h2, h3, h4⟩
  · exact .inl hn
  · exact .inr ⟨g, cap, cur, fz, h1, h2, (hk g _ _ _ h3 (.inr rfl)).trans h3, h4⟩
/-- a builder stands where every block of its two types stands -/
theorem Bld.keeps {w w' : World} {B b : Nat} {l : List UInt8} (h : Bld w B b l) (hk : ∀ (i : Nat) (cs : Array Value) (t : TypeId) (fz : Nat × Nat), w.heap[i]? = some (Obj.cells cs t fz) → (t = 70 ∨ t = 5) → w'.heap[i]? = w.heap[i]?) : Bld w' B b l := by
  rcases h with h | h
  · exact .inl (bldAt_keeps h hk)
  · exact .inr (bldAt_keeps h hk)
theorem bld_own {β : Type} (B b : Nat) (f : β → List UInt8) : Own (fun s W => Bld W B b (f s)) := fun _ _ _ _ hs hg hr => hs.keeps fun _ _ _ _ h _ => grownBy_keeps_cells hg hr h rfl
theorem Bld.setBox {w : World} {B b b1 : Nat} {l : List UInt8} {u : Value} (h : Bld w B b l) (hb : Boxed w b1 9 u) (v : Value) : Bld (w.setCell ⟨b1, 0, none⟩ v) B b l :=
  h.keeps fun i cs t fz hi ht => Below.heap_setCell w ⟨b1, 0, none⟩ v i (fun e => by
    have e : i = b1 := e
    subst e
    have hb : w.heap[i]? = _ := hb
    rw [hi] at hb
    injection hb with hb
    injection hb with _ hb
    rcases ht with ht | ht <;> rw [ht] at hb <;> cases hb)
/-- what a builder's writer keeps, in the words of the law of the range -/
theorem keeps_others {w w' : World} {b B : Nat} {n : Nat} (h : Lib.OthersKept 5 (some b) w w') (hz : Below n w w') (hb : b < B) : KeepsFrom B w w' := by
  refine ⟨hz.size, fun k o hk ho hc => h k o ho (fun e => by injection e with e; omega) (fun c fz e => by rw [e] at hc; cases hc)⟩
theorem box_others {w w' : World} {b B : Nat} {v : Value} {t : TypeId} (h : Lib.OthersKept 5 (some b) w w') (hb : Boxed w B t v) (hne : B ≠ b) (ht : t ≠ 5) : w'.heap[B]? = w.heap[B]? :=
  (h B _ hb (fun e => hne (Option.some.inj e)) (fun c fz e => by injection e with _ e; exact ht e)).trans hb.symm
theorem unst_trim (l : List UInt8) : Lib.trimPrefix l [46] = unst l := by
  unfold Lib.trimPrefix
  rw [pre_one]
  cases l with
  | nil => rfl
  | cons c r =>
    rw [unst_cons]
    by_cases h : c = 46
    · rw [if_pos h, if_pos (decide_eq_true (by rw [h]; rfl))]; rfl
    · rw [if_neg h, if_neg (by simp [h])]
theorem unstuff1_any (s : ByteArray) (w : World) : Calls Tryz.prog 115 #[.string s] w fun e w' => e = .returned (.string (toB (unst s.data.toList))) ∧ w = w' := by
  have h := Lib.hid (Tryz.strings_TrimPrefix s ⟨#[46]⟩ w)
  go_enter Tryz.func115, Tryz.ntmps115
  go_wp2_with (go_at_call 116; (with_reducible refine h.out.mono ?_); rintro e w' ⟨rfl, rfl⟩)
  go_ret
  exact ⟨by show Ending.returned (.string ⟨(Lib.trimPrefix s.data.toList [46]).toArray⟩) = _; rw [unst_trim]; rfl, rfl⟩
theorem stf_le (l : List UInt8) : (stfL l).length ≤ l.length + 1 := by unfold stfL; split <;> simp
theorem unst_le (l : List UInt8) : (unst l).length ≤ l.length + 1 := by
  cases l with
  | nil => exact Nat.zero_le _
  | cons c r => rw [unst_cons]; split <;> simp; omega
def mapB (f : List UInt8 → List UInt8) (L : List ByteArray) : List UInt8 := L.flatMap fun x => f x.data.toList
theorem mapB_snoc (f : List UInt8 → List UInt8) (L : List ByteArray) (x : ByteArray) : mapB f (L ++ [x]) = mapB f L ++ f x.data.toList := by unfold mapB; simp
theorem mapN_lin (f : List UInt8 → List UInt8) (l : List UInt8) : mapN f l = (linN l).flatMap f := by
  refine lin_rec (P := fun l => mapN f l = (linN l).flatMap f) rfl (fun l h ih => ?_) l
  rw [mapN_cons f l h, linN_cons l h, List.flatMap_cons, ih]
theorem mapB_lin (f : List UInt8 → List UInt8) (s : ByteArray) : mapB f (linB s) = mapN f s.data.toList := by
  rw [mapN_lin]
  unfold mapB linB
  rw [List.flatMap_map]
theorem linB_mem {s x : ByteArray} (h : x ∈ linB s) : 0 < x.size ∧ x.size ≤ s.size := by
  unfold linB at h
  obtain ⟨l, hl, rfl⟩ := List.mem_map.1 h
  have := linN_ne _ l hl
  rw [dataL] at this
  have e : (⟨l.toArray⟩ : ByteArray).size = l.length := rfl
  rw [e]
  exact ⟨List.length_pos_iff.2 this.1, this.2⟩
theorem mapB_le (f : List UInt8 → List UInt8) (hf : ∀ x, (f x).length ≤ x.length + 1) {s : ByteArray} {L : List ByteArray} (h : L <+: linB s) : (mapB f L).length ≤ 2 * s.size := by
  have h1 : (mapB f L).length ≤ (mapB f (linB s)).length := by
    obtain ⟨M, hM⟩ := h
    rw [← hM]
    unfold mapB
    rw [List.flatMap_append, List.length_append]; omega
  rw [mapB_lin, mapN_lin] at h1
  have h2 := flat_le f hf (linN s.data.toList)
  rw [linN_join] at h2
  have h3 := linN_len s.data.toList
  rw [dataL] at h2 h3
  omega
set_option maxHeartbeats 4000000 in
set_option maxRecDepth 100000 in
theorem map_unstuff (s : ByteArray) (w : World) (hs : s.size ≤ 10000000) (q : Int) (hq : w.cell? ⟨0, 0, none⟩ = some (.int .i64 q)) :
    Calls Tryz.prog 114 #[.string s, .func (.func 115) #[] #[]] w fun e w' => e = .returned (.string (toB (mapN unst s.data.toList))) ∧ Below w.heap.size w w' := by
  have hq0 := World.block_lt_of_cell? _ _ hq
  refine (callsIn_wide (n := 8)).1 ?_
  refine callsIn_of_wp_marks Tryz.func114 rfl trivial ?_ rfl
  simp only [Tryz.ntmps114, List.size_toArray, List.length_cons, List.length_nil, Nat.reduceAdd, Nat.reduceSub, Array.replicate_succ, Array.replicate_zero, List.push_toArray, List.append_toArray, List.nil_append, List.cons_append]
  have HA := Lib.hid (all_any s)
  gi_wp2_with (refine ⟨trivial, ?_⟩; (with_reducible refine (callsIn_wide.2 (HA.out _)).mono ?_); rintro e w3 ⟨rfl, hbx, hb3, hz3⟩)
  simp only [World.size_alloc] at hbx hz3
  have kF : Boxed w3 w.heap.size 78 (.func (.func 115) #[] #[]) := (hb3.block _ (by simp; omega)).trans ((heap_alloc_old _ _ (by simp)).trans (Boxed.new w _ _))
  have kB : Bld w3 w.heap.size (w.heap.size + 1) [] := by
    have h := Bld.new' (w.alloc (.cells #[.func (.func 115) #[] #[]] 78)) (B := w.heap.size) (by simp)
    rw [World.size_alloc] at h
    exact h.below hb3 (Nat.le_refl _)
  have hB0 : Below w.heap.size w w3 := (((Below.refl _ w).alloc (Nat.le_refl _) _).alloc (by simp) _).trans (hb3.mono (by simp; omega))
  have hq3 := cell_later hB0 hq
  clear hb3 hq
  have hle := fun L => mapB_le unst unst_le (s := s) (L := L)
  have hbl := hbx.lt
  refine wpIn_range_box rfl (by omega) (gf := 135) (lb := #[.pointer (some ⟨w.heap.size + 1 + 1, 0, none⟩)]) rfl trivial (enters_of Tryz.func135 (by kernel_rfl) rfl)
    (all1_gives 7 (by omega) s hs w.heap.size (w.heap.size + 1 + 1) w3 q hq3 hq0 hbx (by omega)) hbl KpB.trans (KpB.put (by omega) hbl) (Below.refl _ _) (fun _ => rfl)
    (fun pre W => (Bld W w.heap.size (w.heap.size + 1) (mapB unst pre) ∧ Boxed W w.heap.size 78 (.func (.func 115) #[] #[]) ∧ w3.heap.size ≤ W.heap.size ∧ ∃ u, Boxed W (w.heap.size + 1 + 1) 9 u) ∧ Below w.heap.size w W)
    (OwnFrom.and (Own.from (fun s A B row hs hg hr => ⟨bld_own _ _ (mapB unst) s A B row hs.1 hg hr, boxed_own _ _ (fun _ => .func (.func 115) #[] #[]) s A B row hs.2.1 hg hr, Nat.le_trans hs.2.2.1 hg.size, by obtain ⟨u, hu⟩ := hs.2.2.2; exact ⟨u, boxed_own _ _ (fun _ => u) s A B row hu hg hr⟩⟩) _) (ownFrom_below (Nat.le_refl _) (by omega)))
    ?box ⟨⟨kB, kF, Nat.le_refl _, _, hbx⟩, hB0⟩
    (fun x => { tmps := #[.string s, .func (.func 115) #[] #[], undef, .pointer (some ⟨w.heap.size, 0, none⟩), .string ⟨#[]⟩, .pointer (some ⟨w.heap.size + 1, 0, none⟩), .string x, .string s, .func (.func 135) #[] #[.pointer (some ⟨w.heap.size + 1 + 1, 0, none⟩)], .string x, undef, undef, undef, undef, undef], defers := [] }) ?assign ?body ?done
  case box =>
    rintro pre W u v ⟨⟨h1, h2, h3, h4⟩, hB⟩ hbb
    exact ⟨⟨h1.setBox hbb v, (Below.heap_setCell W ⟨w.heap.size + 1 + 1, 0, none⟩ v w.heap.size (by show _ ≠ w.heap.size + 1 + 1; omega)).trans h2, by simpa using h3, _, hbb.set v⟩, hB.setCell (p := ⟨w.heap.size + 1 + 1, 0, none⟩) (by show _ ≤ w.heap.size + 1 + 1; omega) _⟩
  case assign =>
    intro l x W K hK
    gi_wp2
    exact hK
  case body =>
    rintro l pre x W hok ⟨⟨h1, h2, h3, u4, h4⟩, hB⟩
    obtain ⟨x0, x1⟩ := linB_mem (hok.subset (by simp : x ∈ pre ++ [x]))
    have hc := h2.cell
    have hls := hle _ hok
    rw [mapB_snoc, List.length_append] at hls
    have HF := Lib.hid (fun w => unstuff1_any x w)
    have hfl := unst_le x.data.toList
    rw [dataL] at hfl
    obtain ⟨Y, hYe, hYd, hYs⟩ := arrE (unst x.data.toList)
    have hY2 : toB (unst x.data.toList) = Y := hYe.symm
    rw [hY2] at HF
    have HW := Lib.hid (ws w.heap.size (w.heap.size + 1) (mapB unst pre) Y W h1 (by rw [hYs]; omega) hB.size)
    have HM := Lib.hid (mapB_snoc unst pre x)
    clear hYe hY2 hls hfl
    gi_wp2_with (first
      | (refine ⟨trivial, ?_⟩; (with_reducible refine (CallsIn.inRound l (callsIn_wide.2 (HF.out _))).mono ?_); rintro e w4 ⟨rfl, rfl⟩)
      | (refine ⟨trivial, ?_⟩; (with_reducible refine (CallsIn.inRound l (callsIn_wide.2 HW.out)).mono ?_); rintro e w5 ⟨rfl, hb5', hb5, ho5⟩))
    have hb5 : Below w.heap.size W w5 := hb5
    have hl5 : Bld w5 w.heap.size (w.heap.size + 1) (mapB unst (pre ++ [x])) := by rw [HM.out, ← hYd]; exact hb5'
    exact ⟨keeps_others ho5 hb5 (by omega), ⟨hb5, box_others ho5 h4 (by omega) (by decide)⟩, ⟨⟨hl5, (box_others ho5 h2 (by omega) (by decide)).trans h2, Nat.le_trans h3 hb5.size, u4, (box_others ho5 h4 (by omega) (by decide)).trans h4⟩, hB.trans hb5⟩⟩
  case done =>
    rintro D ys W hD rfl ⟨⟨h1, h2, h3, -⟩, hB⟩ hK
    have HS := Lib.hid (bstr w.heap.size (w.heap.size + 1) (mapB unst (linB s)) W h1 hB.size)
    gi_wp2_with (refine ⟨trivial, ?_⟩; (with_reducible refine (callsIn_wide.2 HS.out).mono ?_); rintro e w6 ⟨rfl, -, hb6, ho6⟩)
    have hK6 : w6.heap[D]? = some (.deferred (some [])) := ho6 D _ hK (fun e => by injection e with e; omega) (fun c fz e => by cases e)
    refine ⟨by simp, .inl ⟨_, _, rfl, run_takeDeferred hK6, ?_⟩⟩
    exact ⟨_, results_tmp rfl _ _ _, by rw [mapB_lin]; rfl, (hB.trans hb6).trans (belowK_b (w := w3) (by omega) w6 D _ _ (by omega) hK6 rfl rfl)⟩
theorem unstuff_any (s : ByteArray) (w : World) (hs : s.size ≤ 10000000) (q : Int) (hq : w.cell? ⟨0, 0, none⟩ = some (.int .i64 q)) :
    Calls Tryz.prog 78 #[.string s] w fun e w' => e = .returned (.string (toB (mapN unst s.data.toList))) ∧ Below w.heap.size w w' := by
  have H := Lib.hid (map_unstuff s w hs q hq)
  clear hq
  go_enter Tryz.func78, Tryz.ntmps78
  go_wp2_with (go_at_call 114; (with_reducible refine (H.out).mono ?_); rintro e w1 ⟨rfl, hb⟩)
  go_ret
  exact ⟨rfl, hb⟩
/-! Bare -/
def chopN (c : UInt8) (l : List UInt8) : List UInt8 := if l.getLast? = some c then l.dropLast else l
def bareN (l : List UInt8) : List UInt8 := if l.getLast? = some 10 then chopN 13 l.dropLast else l
theorem suf_lastN (l : List UInt8) (c : UInt8) : Lib.hasSuffix l [c] = decide (l.getLast? = some c) := by
  unfold Lib.hasSuffix
  rw [Bool.eq_iff_iff, List.isSuffixOf_iff_suffix, decide_eq_true_iff]
  constructor
  · rintro ⟨t, rfl⟩; simp
  · intro h
    rw [List.getLast?_eq_some_iff] at h
    obtain ⟨t, rfl⟩ := h
    exact ⟨t, rfl⟩
theorem trim_sufN (l : List UInt8) (c : UInt8) : Lib.trimSuffix l [c] = chopN c l := by
  unfold Lib.trimSuffix chopN
  rw [suf_lastN]
  by_cases h : l.getLast? = some c
  · rw [decide_eq_true h, if_pos rfl, if_pos h, List.dropLast_eq_take]; rfl
  · rw [decide_eq_false h, if_neg (by decide), if_neg h]
theorem dot_bare (l : List UInt8) : bareN l = [46] ↔ isDot l = true := by
  unfold isDot bareN
  rw [decide_eq_true_iff]
  refine ⟨fun h => ?_, fun h => ?_⟩
  · by_cases h1 : l.getLast? = some 10
    · rw [if_pos h1] at h
      obtain ⟨t, rfl⟩ := List.getLast?_eq_some_iff.1 h1
      rw [List.dropLast_concat] at h
      unfold chopN at h
      by_cases h2 : t.getLast? = some 13
      · rw [if_pos h2] at h
        obtain ⟨u, rfl⟩ := List.getLast?_eq_some_iff.1 h2
        rw [List.dropLast_concat] at h
        rw [h]; exact .inr (.inr rfl)
      · rw [if_neg h2] at h
        rw [h]; exact .inr (.inl rfl)
    · rw [if_neg h1] at h
      exact .inl h
  · rcases h with rfl | rfl | rfl <;> rfl
theorem bareN_le (l : List UInt8) : (bareN l).length ≤ l.length := by
  unfold bareN chopN
  split
  · split
    · rw [List.length_dropLast, List.length_dropLast]; omega
    · rw [List.length_dropLast]; omega
  · exact Nat.le_refl _
set_option maxRecDepth 100000 in
theorem bareN_any (s : ByteArray) (w : World) (hs : s.size ≤ 100000000) : Calls Tryz.prog 77 #[.string s] w fun e w' => e = .returned (.string (toB (bareN s.data.toList))) ∧ w = w' := by
  have h1 := fun w => Tryz.strings_HasSuffix s ⟨#[10]⟩ w (by omega)
  have e2 : Lib.hasSuffix s.data.toList (⟨#[10]⟩ : ByteArray).data.toList = decide (s.data.toList.getLast? = some 10) := suf_lastN _ _
  rw [e2] at h1
  by_cases h : s.data.toList.getLast? = some 10
  · rw [decide_eq_true h] at h1
    have h0 : 0 < s.size := by
      rcases Nat.eq_zero_or_pos s.size with e | e
      · rw [List.eq_nil_of_length_eq_zero (show s.data.toList.length = 0 from e)] at h; cases h
      · exact e
    have hx := ext_size s 0 (s.size - 1)
    have hd : (s.extract 0 (s.size - 1)).data.toList = s.data.toList.dropLast := by rw [Lib.extract_data, List.drop_zero, List.dropLast_eq_take]; rfl
    have h2 := fun w => Tryz.strings_TrimSuffix (s.extract 0 (s.size - 1)) ⟨#[13]⟩ w (by rw [hx]; omega)
    have e3 : Lib.trimSuffix (s.extract 0 (s.size - 1)).data.toList (⟨#[13]⟩ : ByteArray).data.toList = bareN s.data.toList := by
      rw [hd]; unfold bareN; rw [if_pos h]; exact trim_sufN _ _
    rw [e3] at h2
    have H1 := Lib.hid h1
    have H2 := Lib.hid h2
    have z1 : (0 : Int) ≤ (s.size : Int) - 1 := by omega
    have z2 : (1 : Int) ≤ (s.size : Int) := by omega
    have z3 : ((s.size : Int) - 1).toNat = s.size - 1 := by omega
    clear h1 h2 e2 e3 h hd hx
    go_enter Tryz.func77, Tryz.ntmps77
    go_wp2_with (first
      | (go_at_call 112; (with_reducible refine (H1.out _).mono ?_); rintro e w1 ⟨rfl, rfl⟩)
      | (go_at_call 113; (with_reducible refine (H2.out _).mono ?_); rintro e w1 ⟨rfl, rfl⟩))
    go_ret
    exact ⟨rfl, rfl⟩
  · rw [decide_eq_false h] at h1
    have hb : toB (bareN s.data.toList) = s := by unfold bareN; rw [if_neg h, toB_back]
    rw [hb]
    have H1 := Lib.hid h1
    clear h1 e2 h hb
    go_enter Tryz.func77, Tryz.ntmps77
    go_wp2_with (go_at_call 112; (with_reducible refine (H1.out _).mono ?_); rintro e w1 ⟨rfl, rfl⟩)
    go_ret
    exact ⟨rfl, rfl⟩
end Go.Proofs.YtgimgkjggaijoaaGreatDoor
