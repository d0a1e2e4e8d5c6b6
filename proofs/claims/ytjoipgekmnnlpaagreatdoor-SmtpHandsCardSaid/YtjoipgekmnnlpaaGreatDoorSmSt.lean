/- Walks: lines: Stuff. -/
import Derived.Test.YtjoipgekmnnlpaaGreatDoorLnC
import Derived.Test.YtjoipgekmnnlpaaGreatDoorSmPz
import Derived.Test.YtjoipgekmnnlpaaGreatDoorSmAd
namespace Go.Proofs.YtjoipgekmnnlpaaGreatDoor
open Go.RowKit Go.Shelf Pk Lx Sm

attribute [local go_sem] Oper.semAt_some
theorem data_cons (s : ByteArray) (h : 0 < s.size) : s.data.toList = s[0] :: tl s 1 := by rw [← tl_zero s, tl_cons s 0 h]
theorem u8k {a : UInt8} (n : Nat) (hn : n < 256) : ((a.toNat : Int) == (n : Int)) = decide (a = UInt8.ofNat n) := by
  have := u8_beq a (UInt8.ofNat n)
  rw [show ((UInt8.ofNat n).toNat : Int) = (n : Int) by simp; omega] at this
  exact this
theorem lt_blockX {w : World} {i : Nat} {o : Obj} (h : w.heap[i]? = some o) : i < w.heap.size := (Array.getElem?_eq_some_iff.1 h).1
theorem bldAt_keeps {w w' : World} {B b : Nat} {p : Value} {bs : List Value} {T e : TypeId} (h : Lib.BuilderAtF T e B b p bs w) (hk : ∀ (i : Nat) (cs : Array Value) (t : TypeId) (fz : Nat × Nat), w.heap[i]? = some (Obj.cells cs t fz) → (t = T ∨ t = e) → w'.heap[i]? = w.heap[i]?) : Lib.BuilderAtF T e B b p bs w' := by
  obtain ⟨hB, v, hbk, hown, hne⟩ := h
  refine ⟨hB, v, (hk b _ _ _ hbk (.inl rfl)).trans hbk, ⟨hown.1, ?_⟩, hne⟩
  rcases hown.2 with hn | ⟨g, cap, cur, fz, h1, h2, h3, h4⟩
  · exact .inl hn
  · exact .inr ⟨g, cap, cur, fz, h1, h2, (hk g _ _ _ h3 (.inr rfl)).trans h3, h4⟩
/-- a builder stands where every block of its two types stands -/
theorem Bld.keeps {w w' : World} {B b : Nat} {l : List UInt8} (h : Bld w B b l) (hk : ∀ (i : Nat) (cs : Array Value) (t : TypeId) (fz : Nat × Nat), w.heap[i]? = some (Obj.cells cs t fz) → (t = 69 ∨ t = 5) → w'.heap[i]? = w.heap[i]?) : Bld w' B b l := by
  rcases h with h | h
  · exact .inl (bldAt_keeps h hk)
  · exact .inr (bldAt_keeps h hk)
theorem bld_own {β : Type} (B b : Nat) (f : β → List UInt8) : Own (fun s W => Bld W B b (f s)) := fun _ _ _ _ hs hg hr => hs.keeps fun _ _ _ _ h _ => grownBy_keeps_cells hg hr h rfl
theorem Bld.setBox {w : World} {B b b1 : Nat} {l : List UInt8} {u : Value} (h : Bld w B b l) (hb : Boxed w b1 9 u) (v : Value) : Bld (w.setCell ⟨b1, 0, none⟩ v) B b l :=
  h.keeps fun i cs t fz hi ht => Below.heap_setCell w ⟨b1, 0, none⟩ v i (fun e => by
    have e : i = b1 := e
    subst e
    have hb : w.heap[i]? = _ := hb
    rw [hi] at hb
    injection hb with hb
    injection hb with _ hb
    rcases ht with ht | ht <;> rw [ht] at hb <;> cases hb)
/-- what a builder's writer keeps, in the words of the law of the range -/
theorem keeps_others {w w' : World} {b B : Nat} {n : Nat} (h : Lib.OthersKept 5 (some b) w w') (hz : Below n w w') (hb : b < B) : KeepsFrom B w w' := by
  refine ⟨hz.size, fun k o hk ho hc => h k o ho (fun e => by injection e with e; omega) (fun c fz e => by rw [e] at hc; cases hc)⟩
theorem box_others {w w' : World} {b B : Nat} {v : Value} {t : TypeId} (h : Lib.OthersKept 5 (some b) w w') (hb : Boxed w B t v) (hne : B ≠ b) (ht : t ≠ 5) : w'.heap[B]? = w.heap[B]? :=
  (h B _ hb (fun e => hne (Option.some.inj e)) (fun c fz e => by injection e with _ e; exact ht e)).trans hb.symm
theorem stf_le (l : List UInt8) : (stf l).length ≤ l.length + 1 := by unfold stf; split <;> simp
def mapW (f : List UInt8 → List UInt8) (l : List UInt8) : List UInt8 := (linN l).flatMap f
def mapB (f : List UInt8 → List UInt8) (L : List ByteArray) : List UInt8 := L.flatMap fun x => f x.data.toList
theorem mapB_snoc (f : List UInt8 → List UInt8) (L : List ByteArray) (x : ByteArray) : mapB f (L ++ [x]) = mapB f L ++ f x.data.toList := by unfold mapB; simp
theorem mapB_lin (f : List UInt8 → List UInt8) (s : ByteArray) : mapB f (linB s) = mapW f s.data.toList := by
  unfold mapB linB mapW
  rw [List.flatMap_map]
theorem linB_mem {s x : ByteArray} (h : x ∈ linB s) : 0 < x.size ∧ x.size ≤ s.size := by
  unfold linB at h
  obtain ⟨l, hl, rfl⟩ := List.mem_map.1 h
  have := linN_ne _ l hl
  rw [dataL] at this
  have e : (⟨l.toArray⟩ : ByteArray).size = l.length := rfl
  rw [e]
  exact ⟨List.length_pos_iff.2 this.1, this.2⟩
theorem mapB_le (f : List UInt8 → List UInt8) (hf : ∀ x, (f x).length ≤ x.length + 1) {s : ByteArray} {L : List ByteArray} (h : L <+: linB s) : (mapB f L).length ≤ 2 * s.size := by
  have h1 : (mapB f L).length ≤ (mapB f (linB s)).length := by
    obtain ⟨M, hM⟩ := h
    rw [← hM]
    unfold mapB
    rw [List.flatMap_append, List.length_append]; omega
  rw [mapB_lin] at h1
  unfold mapW at h1
  have h2 := flat_le f hf (linN s.data.toList)
  rw [linN_join] at h2
  have h3 := linN_len s.data.toList
  rw [dataL] at h2 h3
  omega
theorem stuff1_any (s : ByteArray) (w : World) (h0 : 0 < s.size) (hs : s.size ≤ 100000000) : Calls Tryz.prog 52 #[.string s] w fun e w' => e = .returned (.string (bt (stf s.data.toList))) ∧ w = w' := by
  have hd := data_cons s h0
  have he : (s.data.toList.head? = some 46) ↔ s[0] = 46 := by rw [hd]; simp
  by_cases h : s[0] = 46
  · have e : bt (stf s.data.toList) = ⟨#[46]⟩ ++ s := by
      unfold stf
      rw [if_pos (he.2 h)]
      have : ∀ a b : ByteArray, a.data = b.data → a = b := fun a b h => by cases a; cases b; congr 1
      apply this
      rw [ByteArray.data_append]
      unfold bt
      simp
    rw [e]
    have q : ((s[0].toNat : Int) == 46) = true := (u8k 46 (by decide)).trans (decide_eq_true h)
    clear e hd he h
    go_enter Tryz.func52, Tryz.ntmps52
    go_wp2
    go_ret
    exact ⟨rfl, rfl⟩
  · have e : bt (stf s.data.toList) = s := by
      unfold stf
      rw [if_neg (fun hh => h (he.1 hh)), bt_back]
    rw [e]
    have q : ((s[0].toNat : Int) == 46) = false := (u8k 46 (by decide)).trans (decide_eq_false h)
    clear e hd he h
    go_enter Tryz.func52, Tryz.ntmps52
    go_wp2
    go_ret
    exact ⟨rfl, rfl⟩
set_option maxHeartbeats 4000000 in
set_option maxRecDepth 100000 in
theorem map_stuff (s : ByteArray) (w : World) (hs : s.size ≤ 10000000) (q : Int) (hq : w.cell? ⟨3, 0, none⟩ = some (.int .i64 q)) :
    Calls Tryz.prog 51 #[.string s, .func (.func 52) #[] #[]] w fun e w' => e = .returned (.string (bt (mapW stf s.data.toList))) ∧ Below w.heap.size w w' := by
  have hq0 := World.block_lt_of_cell? _ _ hq
  refine (callsIn_wide (n := 8)).1 ?_
  refine callsIn_of_wp_marks Tryz.func51 rfl trivial ?_ rfl
  simp only [Tryz.ntmps51, List.size_toArray, List.length_cons, List.length_nil, Nat.reduceAdd, Nat.reduceSub, Array.replicate_succ, Array.replicate_zero, List.push_toArray, List.append_toArray, List.nil_append, List.cons_append]
  have HA := Lib.hid (all_any s)
  gi_wp2_with (refine ⟨trivial, ?_⟩; (with_reducible refine (callsIn_wide.2 (HA.out _)).mono ?_); rintro e w3 ⟨rfl, hbx, hb3, hz3⟩)
  simp only [World.size_alloc] at hbx hz3
  have kF : Boxed w3 w.heap.size 54 (.func (.func 52) #[] #[]) := (hb3.block _ (by simp; omega)).trans ((heap_alloc_old _ _ (by simp)).trans (Boxed.new w _ _))
  have kB : Bld w3 w.heap.size (w.heap.size + 1) [] := by
    have h := Bld.new' (w.alloc (.cells #[.func (.func 52) #[] #[]] 54)) (B := w.heap.size) (by simp)
    rw [World.size_alloc] at h
    exact h.below hb3 (Nat.le_refl _)
  have hB0 : Below w.heap.size w w3 := (((Below.refl _ w).alloc (Nat.le_refl _) _).alloc (by simp) _).trans (hb3.mono (by simp; omega))
  have hq3 := cell_later hB0 hq
  clear hb3 hq
  have hle := fun L => mapB_le stf stf_le (s := s) (L := L)
  have hbl := hbx.lt
  refine wpIn_range_box rfl (by omega) (gf := 80) (lb := #[.pointer (some ⟨w.heap.size + 1 + 1, 0, none⟩)]) rfl trivial (enters_of Tryz.func80 (by kernel_rfl) rfl)
    (all1_gives 7 (by omega) s hs w.heap.size (w.heap.size + 1 + 1) w3 q hq3 hq0 hbx (by omega)) hbl KpB.trans (KpB.put (by omega) hbl) (Below.refl _ _) (fun _ => rfl)
    (fun pre W => (Bld W w.heap.size (w.heap.size + 1) (mapB stf pre) ∧ Boxed W w.heap.size 54 (.func (.func 52) #[] #[]) ∧ w3.heap.size ≤ W.heap.size ∧ ∃ u, Boxed W (w.heap.size + 1 + 1) 9 u) ∧ Below w.heap.size w W)
    (OwnFrom.and (Own.from (fun s A B row hs hg hr => ⟨bld_own _ _ (mapB stf) s A B row hs.1 hg hr, boxed_own _ _ (fun _ => .func (.func 52) #[] #[]) s A B row hs.2.1 hg hr, Nat.le_trans hs.2.2.1 hg.size, by obtain ⟨u, hu⟩ := hs.2.2.2; exact ⟨u, boxed_own _ _ (fun _ => u) s A B row hu hg hr⟩⟩) _) (ownFrom_below (Nat.le_refl _) (by omega)))
    ?box ⟨⟨kB, kF, Nat.le_refl _, _, hbx⟩, hB0⟩
    (fun x => { tmps := #[.string s, .func (.func 52) #[] #[], undef, .pointer (some ⟨w.heap.size, 0, none⟩), .string ⟨#[]⟩, .pointer (some ⟨w.heap.size + 1, 0, none⟩), .string x, .string s, .func (.func 80) #[] #[.pointer (some ⟨w.heap.size + 1 + 1, 0, none⟩)], .string x, undef, undef, undef, undef, undef], defers := [] }) ?assign ?body ?done
  case box =>
    rintro pre W u v ⟨⟨h1, h2, h3, h4⟩, hB⟩ hbb
    exact ⟨⟨h1.setBox hbb v, (Below.heap_setCell W ⟨w.heap.size + 1 + 1, 0, none⟩ v w.heap.size (by show _ ≠ w.heap.size + 1 + 1; omega)).trans h2, by simpa using h3, _, hbb.set v⟩, hB.setCell (p := ⟨w.heap.size + 1 + 1, 0, none⟩) (by show _ ≤ w.heap.size + 1 + 1; omega) _⟩
  case assign =>
    intro l x W K hK
    gi_wp2
    exact hK
  case body =>
    rintro l pre x W hok ⟨⟨h1, h2, h3, u4, h4⟩, hB⟩
    obtain ⟨x0, x1⟩ := linB_mem (hok.subset (by simp : x ∈ pre ++ [x]))
    have hc := h2.cell
    have hls := hle _ hok
    rw [mapB_snoc, List.length_append] at hls
    have HF := Lib.hid (fun w => stuff1_any x w x0 (by omega))
    have hfl := stf_le x.data.toList
    rw [dataL] at hfl
    obtain ⟨Y, hYe, hYd, hYs⟩ := arrE (stf x.data.toList)
    have hY2 : bt (stf x.data.toList) = Y := hYe.symm
    rw [hY2] at HF
    have HW := Lib.hid (ws w.heap.size (w.heap.size + 1) (mapB stf pre) Y W h1 (by rw [hYs]; omega) hB.size)
    have HM := Lib.hid (mapB_snoc stf pre x)
    clear hYe hY2 hls hfl
    gi_wp2_with (first
      | (refine ⟨trivial, ?_⟩; (with_reducible refine (CallsIn.inRound l (callsIn_wide.2 (HF.out _))).mono ?_); rintro e w4 ⟨rfl, rfl⟩)
      | (refine ⟨trivial, ?_⟩; (with_reducible refine (CallsIn.inRound l (callsIn_wide.2 HW.out)).mono ?_); rintro e w5 ⟨rfl, hb5', hb5, ho5⟩))
    have hb5 : Below w.heap.size W w5 := hb5
    have hl5 : Bld w5 w.heap.size (w.heap.size + 1) (mapB stf (pre ++ [x])) := by rw [HM.out, ← hYd]; exact hb5'
    exact ⟨keeps_others ho5 hb5 (by omega), ⟨hb5, box_others ho5 h4 (by omega) (by decide)⟩, ⟨⟨hl5, (box_others ho5 h2 (by omega) (by decide)).trans h2, Nat.le_trans h3 hb5.size, u4, (box_others ho5 h4 (by omega) (by decide)).trans h4⟩, hB.trans hb5⟩⟩
  case done =>
    rintro D ys W hD rfl ⟨⟨h1, h2, h3, -⟩, hB⟩ hK
    have HS := Lib.hid (bstr w.heap.size (w.heap.size + 1) (mapB stf (linB s)) W h1 hB.size)
    gi_wp2_with (refine ⟨trivial, ?_⟩; (with_reducible refine (callsIn_wide.2 HS.out).mono ?_); rintro e w6 ⟨rfl, -, hb6, ho6⟩)
    have hK6 : w6.heap[D]? = some (.deferred (some [])) := ho6 D _ hK (fun e => by injection e with e; omega) (fun c fz e => by cases e)
    refine ⟨by simp, .inl ⟨_, _, rfl, run_takeDeferred hK6, ?_⟩⟩
    exact ⟨_, results_tmp rfl _ _ _, by rw [mapB_lin]; rfl, (hB.trans hb6).trans (belowK_b (w := w3) (by omega) w6 D _ _ (by omega) hK6 rfl rfl)⟩
theorem stuff_any (s : ByteArray) (w : World) (hs : s.size ≤ 10000000) (q : Int) (hq : w.cell? ⟨3, 0, none⟩ = some (.int .i64 q)) :
    Calls Tryz.prog 29 #[.string s] w fun e w' => e = .returned (.string (bt (mapW stf s.data.toList))) ∧ Below w.heap.size w w' := by
  have H := Lib.hid (map_stuff s w hs q hq)
  clear hq
  go_enter Tryz.func29, Tryz.ntmps29
  go_wp2_with (go_at_call 51; (with_reducible refine (H.out).mono ?_); rintro e w1 ⟨rfl, hb⟩)
  go_ret
  exact ⟨rfl, hb⟩
end Go.Proofs.YtjoipgekmnnlpaaGreatDoor
