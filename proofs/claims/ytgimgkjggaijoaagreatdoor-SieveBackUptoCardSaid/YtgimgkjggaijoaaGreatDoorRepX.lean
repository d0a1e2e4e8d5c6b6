/- Walks: strings.NewReplacer. Walks: strings.Replacer's build, where every old string is one byte and not every new one. Walks: (*strings.byteStringReplacer).Replace and (*strings.Replacer).Replace. -/
import Derived.Test.YtgimgkjggaijoaaGreatDoorOnceX
import Derived.Test.YtgimgkjggaijoaaGreatDoorKitX
import Derived.Deep.DeepCutAuto
import Derived.Deep.CutBlock
import Derived.Deep.RegionHeld3
import Derived.Deep.WholeRow
import Derived.Test.YtgimgkjggaijoaaGreatDoorRepP
namespace Go.Proofs.YtgimgkjggaijoaaGreatDoor
open Go.RowKit Pk

theorem sslR : StrSl Tryz.prog 37 9 where
  ht := Tryz.underlying37
  hi := info_parts (show (Tryz.prog.info? 9).map (fun i => (i.zero, i.size, i.bytes)) = some (some (.string ⟨#[]⟩), 1, 16) by kernel_rfl)
theorem own_shapeR {w : World} {B : Nat} {e : TypeId} {v : Value} {l : List ByteArray} (h : ownsS w B e v l) : ∃ p c, v = .slice p l.length c := by
  rcases h.2 with ⟨h1, h2⟩ | ⟨g, cap, cur, h1, -⟩
  · exact ⟨none, 0, by rw [h1, h2]⟩
  · exact ⟨_, _, h1⟩
/-- a new Replacer -/
def RepIs (xs : List ByteArray) (w : World) (e : Ending) (w' : World) : Prop := ∃ r v, e = .returned (.pointer (some ⟨r, 0, none⟩)) ∧ w'.heap[r]? = some (.cells #[.int .u32 0, .int .i32 0, .int .u32 0, .nilIface, v] 150 (0, 0)) ∧ ownsS w' w.heap.size 9 v xs ∧ w.heap.size ≤ r ∧ Below w.heap.size w w'
set_option maxRecDepth 100000 in
theorem newRep_any (g c n : Nat) (xs : List ByteArray) (w : World) (hn : xs.length = n) (h2 : (n : Int).tmod 2 = 0) (hc : ∀ j u, (xs.map strV)[j]? = some u → w.cell? ((⟨g, 0, none⟩ : Addr).add j) = some u) (hl : n ≤ 1000) :
    Calls Tryz.prog 62 #[.slice (some ⟨g, 0, none⟩) n c] w (RepIs xs w) := by
  have hz : ownsS w w.heap.size 9 (.slice none 0 0) [] := ownsS.nil _ _ _
  have hw2 : IntKind.i64.wrap ((n : Int).tmod 2) = 0 := by rw [h2]; rfl
  go_enter Tryz.func62, Tryz.ntmps62
  go_wp2_with (at_builtin; refine append_str _ rfl (.const (.slice none 0 0)) (.tmp 8) sslR rfl w.heap.size _ _ rfl hz ⟨g, 0, none⟩ n c xs rfl hn hc (by simp; omega) (Nat.le_refl _) ?_; intro v6 w6 hown6 hg6; have hb6 := Below_grownS (Below.refl _ w) hz hg6 (Nat.le_refl _); rw [List.nil_append] at hown6; obtain ⟨p6, c6, rfl⟩ := own_shapeR hown6; rw [hn] at hown6; clear hg6)
  go_ret
  exact ⟨w6.heap.size, _, rfl, heap_alloc_new w6 _, ownsS.alloc hown6 _, hb6.size, hb6.alloc hb6.size _⟩
end Go.Proofs.YtgimgkjggaijoaaGreatDoor
namespace Go.Proofs.YtgimgkjggaijoaaGreatDoor
open Go.RowKit Pk

def oneB (c : UInt8) : ByteArray := ⟨#[c]⟩
/-- the arguments of NewReplacer -/
def inter : List (UInt8 × ByteArray) → List ByteArray
  | [] => []
  | p :: r => oneB p.1 :: p.2 :: inter r
theorem inter_length : ∀ ps : List (UInt8 × ByteArray), (inter ps).length = 2 * ps.length
  | [] => rfl
  | p :: r => by unfold inter; rw [List.length_cons, List.length_cons, inter_length r, List.length_cons]; omega
theorem inter_at : ∀ (ps : List (UInt8 × ByteArray)) (t : Nat) (h : t < ps.length), (inter ps)[2 * t]? = some (oneB ps[t].1) ∧ (inter ps)[2 * t + 1]? = some ps[t].2
  | p :: r, 0, _ => ⟨rfl, rfl⟩
  | p :: r, t + 1, h => by
    obtain ⟨h1, h2⟩ := inter_at r t (by simpa using h)
    unfold inter
    rw [show 2 * (t + 1) = 2 * t + 1 + 1 by omega]
    simp only [List.getElem?_cons_succ, List.getElem_cons_succ]
    exact ⟨h1, h2⟩
def u8V (b : UInt8) : Value := .int .u8 b.toNat
/-- a row of bytes as it is read -/
def SliceB (w : World) (v : Value) (l : List UInt8) : Prop := ∃ g cp cur fz, v = .slice (some ⟨g, 0, none⟩) l.length cp ∧ l.length ≤ cp ∧ w.heap[g]? = some (.cells cur 5 fz) ∧ cur.toList.take l.length = l.map u8V
theorem SliceB.keeps {w w' : World} {v : Value} {l : List UInt8} (h : SliceB w v l) (hk : ∀ (g : Nat) (cur : Array Value) (fz : Nat × Nat), w.heap[g]? = some (Obj.cells cur 5 fz) → w'.heap[g]? = w.heap[g]?) : SliceB w' v l := by
  obtain ⟨g, cp, cur, fz, h1, h2, h3, h4⟩ := h
  exact ⟨g, cp, cur, fz, h1, h2, (hk g cur fz h3).trans h3, h4⟩
def LookAt (w : World) (v : Value) (o : Option ByteArray) : Prop := match o with
  | none => v = .slice none 0 0
  | some s => SliceB w v s.data.toList
/-- the table of a byteStringReplacer that holds the pairs ps -/
structure Tab (w : World) (R B : Nat) (ps : List (UInt8 × ByteArray)) : Prop where
  row : ∃ cs, w.heap[R]? = some (.cells cs 200 (0, 0)) ∧ cs.size = 257
  tab : ∀ c : UInt8, ∃ v, w.cell? ⟨R, c.toNat, none⟩ = some v ∧ LookAt w v (ps.lookup c)
  tr : ∃ v, w.cell? ⟨R, 256, none⟩ = some v ∧ ownsS w B 9 v (ps.reverse.map fun p => oneB p.1)
def BuiltIs (w : World) (B : Nat) (ps : List (UInt8 × ByteArray)) (e : Ending) (w' : World) : Prop := ∃ R, e = .returned (.iface 201 (.pointer (some ⟨R, 0, none⟩))) ∧ B ≤ R ∧ Tab w' R B ps ∧ Below B w w'
theorem make_strs (w : World) {ops : Array Oper} {rest : List Oper} {o : Oper} {a : Act} {Q : Exit → Act → World → Prop}
    (hg : o.guard = none) (l c : Operand) (hop : o.op = Op.makeSlice 37 l c) (B : Nat) (C : Int) (n : Nat) (hl : a.eval l = .int .i64 0) (hc : a.eval c = .int .i64 C) (hC : C = (n : Int)) (hn : n ≤ 1000000) (hB : B ≤ w.heap.size)
    (hK : ∀ w', ownsS w' B 9 (.slice (some ⟨w.heap.size, 0, none⟩) 0 n) [] → w.grownBy w' none → wpList Tryz.prog ops Q rest (a.put o.dst (.slice (some ⟨w.heap.size, 0, none⟩) 0 n)) w') : wpList Tryz.prog ops Q (o :: rest) a w := by
  obtain ⟨i, hi, hz, hsize, hby⟩ := sslR.hi
  exact wpList_make_own w hg l c 37 hop B 9 i (.string ⟨#[]⟩) 1 sslR.ht hi hz hsize .i64 .i64 C n hl hc hC (by rw [hby]; omega) (by unfold maxLen; omega) hB hK
def isNil0 : Option Value → Bool
  | some (.slice none 0 0) => true
  | _ => false
noncomputable def zRow (v : Value) : Array Value := Tryz.zeroCells200.setIfInBounds 256 v
theorem zRow_size (v : Value) : (zRow v).size = 257 := by
  unfold zRow
  rw [Array.size_setIfInBounds]
  kernel_rfl
theorem zRow_at (v : Value) (j : Nat) (h : j < 256) : (zRow v)[j]? = some (.slice none 0 0) := by
  unfold zRow
  rw [Array.getElem?_setIfInBounds_ne (by omega)]
  have hk : ∀ j : Nat, j < 256 → isNil0 (Tryz.zeroCells200[j]?) = true := by decide +kernel
  have h2 := hk j h
  generalize Tryz.zeroCells200[j]? = o at h2
  unfold isNil0 at h2
  split at h2
  · rfl
  · cases h2
theorem zRow_tr (v : Value) : (zRow v)[256]? = some v := by
  unfold zRow
  rw [Array.getElem?_setIfInBounds_self, if_pos (by rw [show Tryz.zeroCells200.size = 257 by kernel_rfl]; omega)]
set_option maxRecDepth 100000 in
theorem zRow_store (v : Value) (hv : v.oneCell' = true) (W : World) : Sem.run Tryz.prog (storeCells ⟨W.heap.size, 0, none⟩ (Tryz.zeroCells200.toList.set 256 v)) (W.alloc (.cells Tryz.zeroCells200 200)) = .ok () (W.alloc (.cells (zRow v) 200)) := by
  have h := run_storeCells_new (P := Tryz.prog) W 200 Tryz.zeroCells200 (zRow v) (by rw [zRow_size]; kernel_rfl) (by rw [zRow_size]; kernel_rfl) (by
    rw [Array.all_eq_true]
    intro j hj
    rw [zRow_size] at hj
    have hg : ∀ x, (zRow v)[j]? = some x → ∀ h, (zRow v)[j]'h = x := fun x hx h => by
      rw [Array.getElem?_eq_getElem h] at hx
      exact Option.some.inj hx
    by_cases h6 : j < 256
    · rw [hg _ (zRow_at v j h6) _]; rfl
    · obtain rfl : j = 256 := by omega
      rw [hg _ (zRow_tr v) _]; exact hv)
  have e : (zRow v).toList = Tryz.zeroCells200.toList.set 256 v := by unfold zRow; simp
  rwa [e] at h
theorem bslR : ByteSl Tryz.prog 68 5 where
  ht := Tryz.underlying68
  he := Tryz.underlying5
  hi := info_parts (show (Tryz.prog.info? 5).map (fun i => (i.zero, i.size, i.bytes)) = some (some (.int .u8 0), 1, 1) by kernel_rfl)
theorem own_typeR {w : World} {B size n : Nat} {e T : TypeId} {v : Value} {xs : List Value} (hown : w.ownsRow B e size v n xs) {g : Nat} {cur : Array Value} {fz : Nat × Nat} (hg : w.heap[g]? = some (Obj.cells cur T fz)) (hT : T ≠ e) : v.ownBlock ≠ some g := by
  rcases hown.2 with ⟨rfl, _⟩ | ⟨g', cap, cur', rfl, _, hg', _⟩
  · simp [Value.ownBlock]
  · intro h
    simp only [Value.ownBlock, Option.some.injEq] at h
    subst h
    rw [hg'] at hg
    injection hg with hg
    injection hg with _ h2 _
    exact hT h2.symm
theorem ownsS.kept {w w' : World} {B : Nat} {e : TypeId} {v : Value} {l : List ByteArray} (h : ownsS w B e v l) (hk : ∀ (g : Nat) (cur : Array Value) (fz : Nat × Nat), w.heap[g]? = some (Obj.cells cur e fz) → w'.heap[g]? = w.heap[g]?) : ownsS w' B e v l := by
  refine ⟨h.1, ?_⟩
  rcases h.2 with hn | ⟨g, cap, cur, h1, h2, h3, h4⟩
  · exact .inl hn
  · exact .inr ⟨g, cap, cur, h1, h2, (hk g cur _ h3).trans h3, h4⟩
theorem row_set {w : World} {b j : Nat} {cs : Array Value} {t : TypeId} {fz : Nat × Nat} {x : Value} (h : w.heap[b]? = some (Obj.cells cs t fz)) : ∃ cs', (w.setCell ⟨b, j, none⟩ x).heap[b]? = some (Obj.cells cs' t fz) ∧ cs'.size = cs.size := by
  refine ⟨_, by simp [World.setCell, Array.getElem?_modify, h]; rfl, by simp⟩
theorem other_type {w : World} {g b : Nat} {c1 c2 : Array Value} {t1 t2 : TypeId} {f1 f2 : Nat × Nat} (h1 : w.heap[g]? = some (Obj.cells c1 t1 f1)) (h2 : w.heap[b]? = some (Obj.cells c2 t2 f2)) (hT : t1 ≠ t2) : g ≠ b := by
  intro e
  subst e
  rw [h1] at h2
  injection h2 with h2
  injection h2 with _ h2 _
  exact hT h2
theorem frozen_of {w : World} {b j : Nat} {cs : Array Value} {t : TypeId} (h : w.heap[b]? = some (Obj.cells cs t (0, 0))) : w.frozen? ⟨b, j, none⟩ = false := by simp [World.frozen?, h]
theorem cell_of_heapR {w w' : World} {b : Nat} (h : w'.heap[b]? = w.heap[b]?) (j : Nat) : w'.cell? ⟨b, j, none⟩ = w.cell? ⟨b, j, none⟩ := by
  unfold World.cell?
  rw [h]
/-- one more pair in the table: behind the append of its key, and with its value -/
theorem tab_app {w w7 : World} {R B : Nat} {ps : List (UInt8 × ByteArray)} {kc : UInt8} {vt v7 : Value} {o o' : Obj} (hT : Tab w R B ps) (hvt : w.cell? ⟨R, 256, none⟩ = some vt) (hown : ownsS w B 9 vt (ps.reverse.map fun p => oneB p.1))
    (hg : ((w.alloc o).alloc o').grownBy w7 vt.ownBlock) (hown7 : ownsS w7 B 9 v7 ((ps.reverse.map fun p => oneB p.1) ++ [oneB kc])) :
    w7.cell? ⟨R, 256, none⟩ = some vt ∧ w7.frozen? ⟨R, 256, none⟩ = false ∧ (∃ cs, (w7.setCell ⟨R, 256, none⟩ v7).heap[R]? = some (Obj.cells cs 200 (0, 0)) ∧ cs.size = 257) ∧
    (∀ c : UInt8, ∃ v, (w7.setCell ⟨R, 256, none⟩ v7).cell? ⟨R, c.toNat, none⟩ = some v ∧ LookAt (w7.setCell ⟨R, 256, none⟩ v7) v (ps.lookup c) ∧ w.cell? ⟨R, c.toNat, none⟩ = some v) ∧
    (w7.setCell ⟨R, 256, none⟩ v7).cell? ⟨R, 256, none⟩ = some v7 ∧ ownsS (w7.setCell ⟨R, 256, none⟩ v7) B 9 v7 ((ps.reverse.map fun p => oneB p.1) ++ [oneB kc]) := by
  obtain ⟨cs, hrow, hsz⟩ := hT.row
  have hR := lt_of_block hrow
  have kp : ∀ (g : Nat), g < w.heap.size → vt.ownBlock ≠ some g → w7.heap[g]? = w.heap[g]? := fun g h1 h2 => by
    rw [hg.block g (by simp; omega) (fun e => h2 e.symm), heap_alloc_old (w.alloc o) o' (by simp; omega)]
    exact heap_alloc_old w o h1
  have hR7 : w7.heap[R]? = some (Obj.cells cs 200 (0, 0)) := (kp R hR (own_typeR hown hrow (by decide))).trans hrow
  have hu7 : ∀ (g : Nat) (cur : Array Value) (fz : Nat × Nat), w.heap[g]? = some (Obj.cells cur 5 fz) → w7.heap[g]? = w.heap[g]? := fun g cur fz h => kp g (lt_of_block h) (own_typeR hown h (by decide))
  obtain ⟨cs2, h2, hs2⟩ := row_set (j := 256) (x := v7) hR7
  have hc7 : w7.cell? ⟨R, 256, none⟩ = some vt := (cell_of_heapR (hR7.trans hrow.symm) 256).trans hvt
  refine ⟨hc7, frozen_of hR7, ⟨cs2, h2, by omega⟩, fun c => ?_, World.cell?_setCell_same _ _ _ hc7, ?_⟩
  · obtain ⟨v, hv, hl⟩ := hT.tab c
    refine ⟨v, ?_, ?_, hv⟩
    · have hne : (⟨R, 256, none⟩ : Addr) ≠ ⟨R, c.toNat, none⟩ := fun e => by
        have := congrArg Addr.off e
        have h3 : 256 = c.toNat := this
        have := c.toNat_lt
        omega
      rw [World.cell?_setCell_other _ _ _ _ hne, cell_of_heapR (hR7.trans hrow.symm) c.toNat]
      exact hv
    · cases hq : ps.lookup c with
      | none => rw [hq] at hl; exact hl
      | some s =>
        rw [hq] at hl
        exact SliceB.keeps hl fun g cur fz h => by
          rw [Below.heap_setCell _ _ _ _ (other_type h hrow (by decide))]
          exact hu7 g cur fz h
  · refine ownsS.kept hown7 fun g cur fz h => ?_
    rw [Below.heap_setCell _ _ _ _ (other_type h hR7 (by decide))]
theorem tab_put {w8 : World} {R B : Nat} {ps : List (UInt8 × ByteArray)} {kc : UInt8} {vv : ByteArray} {v7 : Value} {cs : Array Value} (hrow : w8.heap[R]? = some (Obj.cells cs 200 (0, 0))) (hsz : cs.size = 257)
    (htab : ∀ c : UInt8, ∃ v, w8.cell? ⟨R, c.toNat, none⟩ = some v ∧ LookAt w8 v (ps.lookup c)) (htr : w8.cell? ⟨R, 256, none⟩ = some v7) (hown : ownsS w8 B 9 v7 ((ps.reverse.map fun p => oneB p.1) ++ [oneB kc])) :
    (∃ v, (Lib.bytesWorld w8 5 vv).cell? ⟨R, kc.toNat, none⟩ = some v) ∧ (Lib.bytesWorld w8 5 vv).frozen? ⟨R, kc.toNat, none⟩ = false ∧
    Tab ((Lib.bytesWorld w8 5 vv).setCell ⟨R, kc.toNat, none⟩ (.slice (some ⟨w8.heap.size, 0, none⟩) vv.size (grownCap w8 vv.size 0 5))) R B ((kc, vv) :: ps) := by
  have hR := lt_of_block hrow
  have hR9 : (Lib.bytesWorld w8 5 vv).heap[R]? = some (Obj.cells cs 200 (0, 0)) := (Lib.bytesWorld_at_old w8 _ vv R hR).trans hrow
  have hc9 : ∀ j, (Lib.bytesWorld w8 5 vv).cell? ⟨R, j, none⟩ = w8.cell? ⟨R, j, none⟩ := fun j => cell_of_heapR (hR9.trans hrow.symm) j
  obtain ⟨cs2, h2, hs2⟩ := row_set (j := kc.toNat) (x := .slice (some ⟨w8.heap.size, 0, none⟩) vv.size (grownCap w8 vv.size 0 5)) hR9
  obtain ⟨vk, hvk, -⟩ := htab kc
  refine ⟨⟨vk, (hc9 _).trans hvk⟩, frozen_of hR9, ⟨cs2, h2, by omega⟩, fun c => ?_, ?_⟩
  · by_cases hc : c = kc
    · subst hc
      refine ⟨_, World.cell?_setCell_same _ _ _ ((hc9 _).trans hvk), ?_⟩
      rw [List.lookup_cons_self]
      have hn := Lib.bytesWorld_at_new w8 5 vv
      refine ⟨w8.heap.size, grownCap w8 vv.size 0 5, Lib.bytesCells w8 5 vv, ((Lib.bytesCells w8 5 vv).size, (Lib.bytesCells w8 5 vv).size + 1), rfl, grownCap_ge w8 vv.size 0 _, ?_, ?_⟩
      · rw [Below.heap_setCell _ _ _ _ (show w8.heap.size ≠ R by omega)]
        exact hn
      · unfold Lib.bytesCells
        rw [Array.toList_append, List.take_append_of_le_length (by simp)]
        simp only [Array.toList_map]
        rw [List.take_of_length_le (by simp)]
        rfl
    · obtain ⟨v, hv, hl⟩ := htab c
      have hne : (⟨R, kc.toNat, none⟩ : Addr) ≠ ⟨R, c.toNat, none⟩ := fun e => by
        have h3 : kc.toNat = c.toNat := congrArg Addr.off e
        exact hc (UInt8.toNat_inj.1 h3.symm)
      refine ⟨v, by rw [World.cell?_setCell_other _ _ _ _ hne, hc9]; exact hv, ?_⟩
      have hlk : ((kc, vv) :: ps).lookup c = ps.lookup c := by
        rw [List.lookup_cons]
        have : (c == kc) = false := beq_eq_false_iff_ne.2 hc
        rw [this]
      rw [hlk]
      cases hq : ps.lookup c with
      | none => rw [hq] at hl; exact hl
      | some s =>
        rw [hq] at hl
        exact SliceB.keeps hl fun g cur fz h => by
          rw [Below.heap_setCell _ _ _ _ (other_type h hrow (by decide)), Lib.bytesWorld_at_old w8 _ vv g (lt_of_block h)]
  · have hne : (⟨R, kc.toNat, none⟩ : Addr) ≠ ⟨R, 256, none⟩ := fun e => by
      have h3 : kc.toNat = 256 := congrArg Addr.off e
      have := kc.toNat_lt
      omega
    refine ⟨v7, by rw [World.cell?_setCell_other _ _ _ _ hne, hc9]; exact htr, ?_⟩
    rw [List.reverse_cons, List.map_append]
    refine ownsS.kept hown fun g cur fz h => ?_
    rw [Below.heap_setCell _ _ _ _ (other_type h hrow (by decide)), Lib.bytesWorld_at_old w8 _ vv g (lt_of_block h)]
theorem cells_new1R (w : World) (o : Obj) (cs : List Value) (t : TypeId) : ∀ j u, cs[j]? = some u → ((w.alloc o).alloc (.cells cs.toArray t)).cell? ((⟨w.heap.size + 1, 0, none⟩ : Addr).add j) = some u := by
  have h := cells_new (w.alloc o) cs t
  have e : (w.alloc o).heap.size = w.heap.size + 1 := by simp
  rw [e] at h
  exact h
theorem look_none {ps : List (UInt8 × ByteArray)} (hnd : (ps.map (·.1)).Nodup) {s : Nat} (h : s < ps.length) : (ps.drop (s + 1)).lookup ps[s].1 = none := by
  have e := List.drop_eq_getElem_cons h
  have hs : ((ps.drop s).map (·.1)).Nodup := hnd.sublist ((List.drop_sublist s ps).map _)
  rw [e, List.map_cons, List.nodup_cons] at hs
  rw [List.lookup_eq_none_iff]
  intro p hp
  rw [bne_iff_ne]
  intro e2
  exact hs.1 (by rw [e2]; exact List.mem_map_of_mem hp)
set_option maxHeartbeats 4000000 in
set_option maxRecDepth 100000 in
theorem build_any (r g cp : Nat) (ps : List (UInt8 × ByteArray)) (w : World) (hn : ps.length ≤ 100) (h1 : 2 ≤ ps.length) (hnd : (ps.map (·.1)).Nodup) (hnew : (ps.all fun p => p.2.size == 1) = false)
    (hv : w.cell? ⟨r, 4, none⟩ = some (.slice (some ⟨g, 0, none⟩) (2 * ps.length) cp)) (hc : ∀ j (h : j < (inter ps).length), w.cell? ⟨g, j, none⟩ = some (.string (inter ps)[j])) :
    Calls Tryz.prog 132 #[.pointer (some ⟨r, 0, none⟩)] w (BuiltIs w w.heap.size ps) := by
  have hil := inter_length ps
  have hcA : ∀ t (h : t < ps.length), w.cell? ⟨g, 2 * t, none⟩ = some (.string (oneB ps[t].1)) ∧ w.cell? ⟨g, 2 * t + 1, none⟩ = some (.string ps[t].2) := fun t h => by
    obtain ⟨a1, a2⟩ := inter_at ps t h
    obtain ⟨b1, b2⟩ := List.getElem?_eq_some_iff.1 a1
    obtain ⟨d1, d2⟩ := List.getElem?_eq_some_iff.1 a2
    exact ⟨by rw [hc _ b1, b2], by rw [hc _ d1, d2]⟩
  have HC := Lib.hid hcA
  have hq : (((2 * ps.length : Nat) : Int) == 2) = false := beq_eq_false_iff_ne.2 (by omega)
  obtain ⟨n, hnn⟩ : ∃ n, n = ps.length := ⟨_, rfl⟩
  clear hc hcA hil
  rw [← hnn] at hv hn h1 hq
  have HNN := Lib.hid hnn
  clear hnn
  have hcast : ((2 * n : Nat) : Int) = 2 * (n : Int) := by omega
  rw [hcast] at hq
  clear hcast
  go_enter Tryz.func132, Tryz.ntmps132
  go_upto_block 0 with fail
  go_cut [4] (fun av wx => av = .bool false ∧ wx = w)
  case first =>
    go_wp2_with fail
    go_loopw [4, 5] (fun av iv wr => ∃ t : Nat, iv = .int .i64 (2 * (t : Int)) ∧ av = .bool ((ps.take t).all fun p => p.2.size == 1) ∧ wr = w ∧ t ≤ n) (fun _ iv _ => 2 * n - (intOf iv).toNat)
    case atStart => exact ⟨0, by first | rfl | trivial, by first | rfl | trivial, rfl, by omega⟩
    case round =>
      obtain ⟨t, rfl, rfl, rfl, ht⟩ := hrel
      by_cases hlt : t < n
      · obtain ⟨c0, c1⟩ := HC.out t (by rw [← HNN.out]; exact hlt)
        have q1 : decide (2 * (t : Int) < 2 * (n : Int)) = true := decide_eq_true (by omega)
        have i1 : (2 * (t : Int)).toNat = 2 * t := by omega
        have i2 : (2 * (t : Int) + 1).toNat = 2 * t + 1 := by omega
        have o1 : (oneB (ps[t]'(by rw [← HNN.out]; exact hlt)).1).size = 1 := rfl
        have hstep : (ps.take (t + 1)).all (fun p => p.2.size == 1) = ((ps.take t).all (fun p => p.2.size == 1) && ((ps[t]'(by rw [← HNN.out]; exact hlt)).2.size == 1)) := by
          rw [List.take_succ_eq_append_getElem (by rw [← HNN.out]; exact hlt), List.all_append]; simp
        generalize (ps[t]'(by rw [← HNN.out]; exact hlt)).1 = kc at c0 o1
        generalize oneB kc = ks at c0 o1
        generalize (ps[t]'(by rw [← HNN.out]; exact hlt)).2 = vv at c1 hstep
        have qk : ((ks.size : Int) != 1) = false := by rw [o1]; rfl
        have hst2 := Lib.hid hstep
        have hw1 : IntKind.i64.wrap (2 * (t : Int) + 1) = 2 * (t : Int) + 1 := w64 rfl (by omega) (by omega)
        by_cases hs : vv.size = 1
        · have qv : ((vv.size : Int) != 1) = false := by rw [hs]; rfl
          have hb : (vv.size == 1) = true := beq_iff_eq.2 hs
          clear hstep o1 hs
          go_wp2
          go_roundw
          case rel => exact ⟨t + 1, by go_num, by first | exact (by rw [hst2.out, hb, Bool.and_true]) | (simp [hst2.out, hb]), by first | rfl | trivial, by omega⟩
          case measure => simp [intOf]; omega
        · have qv : ((vv.size : Int) != 1) = true := by rw [bne_iff_ne]; omega
          have hb : (vv.size == 1) = false := beq_eq_false_iff_ne.2 hs
          clear hstep o1 hs
          go_wp2
          go_roundw
          case rel => exact ⟨t + 1, by go_num, by first | exact (by rw [hst2.out, hb, Bool.and_false]) | (simp [hst2.out, hb]), by first | rfl | trivial, by omega⟩
          case measure => simp [intOf]; omega
      · have htn : (ps.take t).all (fun p => p.2.size == 1) = false := by
          rw [List.take_of_length_le (by rw [← HNN.out]; omega)]; exact hnew
        have q1 : decide (2 * (t : Int) < 2 * (n : Int)) = false := decide_eq_false (by omega)
        have HT := Lib.hid htn
        clear htn
        go_wp2
        go_meet
        exact ⟨by rw [HT.out], rfl⟩
  case rest =>
    obtain ⟨rfl, rfl⟩ := hcut
    have hquo : (2 * (n : Int)).tdiv 2 = (n : Int) := by rw [Int.tdiv_eq_ediv_of_nonneg (by omega)]; omega
    have hsub : IntKind.i64.wrap (2 * (n : Int) - 2) = 2 * (n : Int) - 2 := w64 rfl (by omega) (by omega)
    have HZ := fun v hv W => zRow_store v hv W
    have hz0 : ∀ p n c, (Value.slice p n c).oneCell' = true := fun _ _ _ => rfl
    have hzz := fun p n c W => HZ (.slice p n c) (hz0 p n c) W
    clear HZ hz0
    go_upto_region 28 with (at_make; refine make_strs _ rfl (.const (.int .i64 0)) (.tmp 93) rfl wc.heap.size _ n rfl rfl (by omega) (by omega) (Nat.le_refl _) ?_; intro w6 hown6 hg6)
    obtain ⟨B, hB⟩ : ∃ b, b = wc.heap.size := ⟨_, rfl⟩
    have hT0 : Tab (w6.alloc (.cells (zRow (.slice (some ⟨wc.heap.size, 0, none⟩) 0 n)) 200)) w6.heap.size wc.heap.size (ps.drop n) := by
      have hnew := heap_alloc_new w6 (.cells (zRow (.slice (some ⟨wc.heap.size, 0, none⟩) 0 n)) 200)
      have hd : ps.drop n = [] := List.drop_eq_nil_of_le (by rw [HNN.out]; exact Nat.le_refl _)
      rw [hd]
      exact ⟨⟨_, hnew, zRow_size _⟩, fun c => ⟨_, (Lib.cell_of_heap hnew _).trans (zRow_at _ _ c.toNat_lt), rfl⟩, ⟨_, (Lib.cell_of_heap hnew _).trans (zRow_tr _), ownsS.alloc hown6 _⟩⟩
    have hb0 : Below wc.heap.size wc (w6.alloc (.cells (zRow (.slice (some ⟨wc.heap.size, 0, none⟩) 0 n)) 200)) :=
      (Below.grown (Below.refl _ wc) hg6 (Nat.le_refl _) (fun k hk => by cases hk)).alloc hg6.size _
    have hR0 : w6.heap.size < (w6.alloc (.cells (zRow (.slice (some ⟨wc.heap.size, 0, none⟩) 0 n)) 200)).heap.size := by simp
    have hR1 : wc.heap.size ≤ w6.heap.size := by have := hg6.size; omega
    clear hzz hg6 hown6
    go_loopw [12] (fun iv wr => ∃ (t : Nat) (z : Int), iv = .int .i64 z ∧ z = 2 * (t : Int) - 2 ∧ t ≤ n ∧ Tab wr w6.heap.size wc.heap.size (ps.drop t) ∧ Below wc.heap.size wc wr ∧ w6.heap.size < wr.heap.size) (fun iv _ => (intOf iv + 2).toNat)
    case atStart => exact ⟨n, _, by first | rfl | trivial, rfl, by omega, hT0, hb0, hR0⟩
    case round =>
      clear hT0 hb0 hR0
      obtain ⟨t, z, rfl, hz, ht, hT, hbel, hR⟩ := hrel
      by_cases hlt : 0 < t
      · obtain ⟨s, rfl⟩ : ∃ s, t = s + 1 := ⟨t - 1, by omega⟩
        have hz2 : z = 2 * (s : Int) := by omega
        clear hz
        subst hz2
        have hsn : s < ps.length := by rw [← HNN.out]; omega
        obtain ⟨c0, c1⟩ := HC.out s hsn
        have c0 := cell_later (hbel.mono (by omega)) c0
        have c1 := cell_later (hbel.mono (by omega)) c1
        have q1 : decide ((0 : Int) ≤ 2 * (s : Int)) = true := decide_eq_true (by omega)
        have i1 : (2 * (s : Int)).toNat = 2 * s := by omega
        have i2 : (2 * (s : Int) + 1).toNat = 2 * s + 1 := by omega
        have hw1 : IntKind.i64.wrap (2 * (s : Int) + 1) = 2 * (s : Int) + 1 := w64 rfl (by omega) (by omega)
        have hw2 : IntKind.i64.wrap (2 * (s : Int) - 2) = 2 * (s : Int) - 2 := w64 rfl (by omega) (by omega)
        have hl0 : (ps.drop (s + 1)).lookup ps[s].1 = none := look_none hnd hsn
        have hdr : ps.drop s = (ps[s].1, ps[s].2) :: ps.drop (s + 1) := List.drop_eq_getElem_cons hsn
        obtain ⟨vn, hvn, hnil⟩ := hT.tab ps[s].1
        rw [hl0] at hnil
        obtain rfl : vn = .slice none 0 0 := hnil
        generalize ps[s].1 = kc at c0 hvn hdr
        generalize ps[s].2 = vv at c1 hdr
        have HDR := Lib.hid hdr
        clear hdr
        obtain ⟨ks, hks0, hks, HKS⟩ : ∃ ks : ByteArray, ∃ h : 0 < ks.size, ks.size = 1 ∧ Hid (ks = oneB kc ∧ ks[0] = kc) := ⟨oneB kc, show 0 < 1 by decide, rfl, rfl, rfl⟩
        rw [← HKS.out.1] at c0
        rw [← HKS.out.2] at hvn
        have hkb2 : (ks[0].toNat : Int) < 256 := by have := ks[0].toNat_lt; omega
        obtain ⟨vt, hvt, hown⟩ := hT.tr
        obtain ⟨pt, ct, rfl⟩ := own_shapeR hown
        have hlen : ((ps.drop (s + 1)).reverse.map fun p => oneB p.1).length ≤ 100 := by
          rw [List.length_map, List.length_reverse, List.length_drop]; have := HNN.out; omega
        generalize hrows : ((ps.drop (s + 1)).reverse.map fun p => oneB p.1) = rows at hvt hown hlen
        have HRW := Lib.hid hrows
        clear hl0 hrows
        have hnl := fun w : World => run_eql_nil_slice (P := Tryz.prog) w 68 5 none 0 0 0 0 Tryz.underlying68
        have hcs : ∀ W : World, Sem.run Tryz.prog (convert 68 9 (.slice (some ⟨W.heap.size, 0, none⟩) 1 1)) (W.alloc (.cells #[.int .u8 ks[0].toNat] 5)) = .ok (.string ks) (W.alloc (.cells #[.int .u8 ks[0].toNat] 5)) := fun W => by
          have h := run_string_lit (P := Tryz.prog) W bslR Tryz.underlying9 [ks[0]] 1 rfl (by omega)
          have e : (⟨[ks[0]].toArray⟩ : ByteArray) = ks := by
            have h1 := HKS.out.2
            rw [h1, HKS.out.1]; rfl
          rw [e] at h
          exact h
        have hcb : ∀ W : World, Sem.run Tryz.prog (convert 9 68 (.string vv)) W = .ok (.slice (some ⟨W.heap.size, 0, none⟩) vv.size (grownCap W vv.size 0 5)) (Lib.bytesWorld W 5 vv) := fun W => Lib.run_convert_string_bytes W 9 68 5 vv Tryz.underlying9 Tryz.underlying68 Tryz.underlying5
        have hown2 := ownsS.alloc (ownsS.alloc hown (.cells #[.int .u8 ks[0].toNat] 5)) (.cells #[.string ks] 9)
        have HT := Lib.hid hT
        have HOWN := Lib.hid hown
        clear hT hown
        go_upto_region 34 with (at_builtin; go_loud (refine append_str _ rfl (.tmp 119) (.tmp 123) sslR rfl wc.heap.size _ _ rfl hown2 ⟨_, 0, none⟩ 1 1 [ks] rfl rfl (cells_new1R _ _ _ _) (by first | omega | (simp; done) | (simp; omega)) (by first | omega | (simp; done) | (simp; omega)) ?_; intro v7 w7 hown7 hg7; obtain ⟨p7, c7, n7, rfl⟩ : ∃ p c n, v7 = .slice p n c := (by obtain ⟨p, c, e⟩ := own_shapeR hown7; exact ⟨p, c, _, e⟩); have hown8 := hown7; rw [← HRW.out, HKS.out.1] at hown8; obtain ⟨e1, e2, e3, e4, e5, e6⟩ := tab_app HT.out hvt (by rw [HRW.out]; exact HOWN.out) hg7 hown8; have hb7 := Below_grownS ((hbel.alloc (by omega) (.cells #[.int .u8 ks[0].toNat] 5)).alloc (by simp; omega) (.cells #[.string ks] 9)) hown2 hg7 (by simp; omega); have E3 := Lib.hid e3; have E4 := Lib.hid e4; have E5 := Lib.hid e5; have E6 := Lib.hid e6; clear e3 e4 e5 e6 hown8))
        have hb8 := hb7.setCell (p := ⟨w6.heap.size, 256, none⟩) hR1 (.slice p7 n7 c7)
        obtain ⟨cs8, hr8, hs8⟩ := E3.out
        have hz8 := lt_of_block hr8
        obtain ⟨⟨vx, hx⟩, hfx, hT9⟩ := tab_put (kc := kc) (vv := vv) hr8 hs8 (fun c => by obtain ⟨v, h1, h2, -⟩ := E4.out c; exact ⟨v, h1, h2⟩) E5.out E6.out
        have hkt : ks[0].toNat = kc.toNat := by rw [HKS.out.2]
        rw [← hkt] at hx hfx hT9
        rw [← HDR.out] at hT9
        have hb9 := (hb8.trans ((Lib.bytesWorld_below (w7.setCell ⟨w6.heap.size, 256, none⟩ (.slice p7 n7 c7)) 5 vv).mono hb8.size)).setCell (p := ⟨w6.heap.size, ks[0].toNat, none⟩) hR1 (.slice (some ⟨(w7.setCell ⟨w6.heap.size, 256, none⟩ (.slice p7 n7 c7)).heap.size, 0, none⟩) vv.size (grownCap (w7.setCell ⟨w6.heap.size, 256, none⟩ (.slice p7 n7 c7)) vv.size 0 5))
        have hz9 : w6.heap.size < ((Lib.bytesWorld (w7.setCell ⟨w6.heap.size, 256, none⟩ (.slice p7 n7 c7)) 5 vv).setCell ⟨w6.heap.size, ks[0].toNat, none⟩ (.slice (some ⟨(w7.setCell ⟨w6.heap.size, 256, none⟩ (.slice p7 n7 c7)).heap.size, 0, none⟩) vv.size (grownCap (w7.setCell ⟨w6.heap.size, 256, none⟩ (.slice p7 n7 c7)) vv.size 0 5))).heap.size := by
          obtain ⟨cq, hq9, -⟩ := hT9.row
          exact lt_of_block hq9
        have HT9 := Lib.hid hT9
        have HB9 := Lib.hid hb9
        have HZ9 := Lib.hid hz9
        generalize w7.setCell ⟨w6.heap.size, 256, none⟩ (.slice p7 n7 c7) = W8 at hx hfx HT9 HB9 HZ9 ⊢
        clear hT9 hb9 hz9 hb8 hr8 hs8 E3 E4 E5 E6 hkt HT HOWN hown2 hvt c0 c1 hvn hbel e1 e2 hown7 hg7 hb7
        go_wp2
        go_roundw
        case rel => exact ⟨s, 2 * (s : Int) - 2, by go_num, rfl, by omega, HT9.out, HB9.out, HZ9.out⟩
        case measure => simp [intOf]; omega
      · obtain rfl : t = 0 := by omega
        have hz2 : z = -2 := by omega
        clear hz
        subst hz2
        have hpost : Hid (BuiltIs wc wc.heap.size ps (.returned (.iface 201 (.pointer (some ⟨w6.heap.size, 0, none⟩)))) wr) := ⟨w6.heap.size, rfl, hR1, by rw [List.drop_zero] at hT; exact hT, hbel⟩
        clear hT hbel
        go_wp2
        go_ret
        exact hpost.out
end Go.Proofs.YtgimgkjggaijoaaGreatDoor
namespace Go.Proofs.YtgimgkjggaijoaaGreatDoor
open Go.RowKit Pk Rp

set_option maxRecDepth 100000 in
theorem once_build (r g cp : Nat) (ps : List (UInt8 × ByteArray)) (w : World) (hn : ps.length ≤ 100) (h1 : 2 ≤ ps.length) (hnd : (ps.map (·.1)).Nodup) (hnew : (ps.all fun p => p.2.size == 1) = false)
    (hrow : ∃ x0 x1 x2 x3, w.heap[r]? = some (.cells #[x0, x1, x2, x3, .slice (some ⟨g, 0, none⟩) (2 * ps.length) cp] 150 (0, 0))) (hc : ∀ j (h : j < (inter ps).length), w.cell? ⟨g, j, none⟩ = some (.string (inter ps)[j])) :
    Calls Tryz.prog 105 #[.pointer (some ⟨r, 0, none⟩)] w fun e w' => e = .returned (.tuple #[]) ∧ ∃ R w2, Tab w2 R w.heap.size ps ∧ w.heap.size ≤ R ∧ Below w.heap.size w w2 ∧ w' = (w2.setCell ⟨r, 3, none⟩ (.iface 201 (.pointer (some ⟨R, 0, none⟩)))).setCell ⟨r, 4, none⟩ (.slice none 0 0) := by
  obtain ⟨x0, x1, x2, x3, hrow⟩ := hrow
  have hr := lt_of_block hrow
  have hB := build_any r g cp ps w hn h1 hnd hnew ((Lib.cell_of_heap hrow 4).trans rfl) hc
  have HB := Lib.hid hB
  have HROW := Lib.hid hrow
  clear hB hc hrow
  go_enter Tryz.func105, Tryz.ntmps105
  go_upto_region 1 with (go_at_call 132; (with_reducible refine HB.out.mono ?_); rintro e w2 ⟨R, rfl, hR, hT, hb2⟩; have c3 := (Lib.cell_of_heap ((hb2.block r hr).trans HROW.out) 3).trans rfl; have f3 := frozen_of (j := 3) ((hb2.block r hr).trans HROW.out))
  have hrow2 := (hb2.block r hr).trans HROW.out
  obtain ⟨cs3, hrow3, -⟩ := row_set (j := 3) (x := .iface 201 (.pointer (some ⟨R, 0, none⟩))) hrow2
  have f4 := frozen_of (j := 4) hrow3
  have c4 := (World.cell?_setCell_other w2 ⟨r, 3, none⟩ ⟨r, 4, none⟩ (.iface 201 (.pointer (some ⟨R, 0, none⟩))) (by simp)).trans ((Lib.cell_of_heap hrow2 4).trans rfl)
  have HT := Lib.hid hT
  clear hrow2 hrow3 c3 f3 hT
  go_wp2
  go_end0
  exact ⟨rfl, R, w2, HT.out, hR, hb2, rfl⟩
theorem Tab.kept {w w' : World} {R B : Nat} {ps : List (UInt8 × ByteArray)} (h : Tab w R B ps) (hR : w'.heap[R]? = w.heap[R]?) (hk : ∀ (g : Nat) (cur : Array Value) (fz : Nat × Nat), (w.heap[g]? = some (Obj.cells cur 5 fz) ∨ w.heap[g]? = some (Obj.cells cur 9 fz)) → w'.heap[g]? = w.heap[g]?) : Tab w' R B ps := by
  obtain ⟨cs, hrow, hsz⟩ := h.row
  refine ⟨⟨cs, hR.trans hrow, hsz⟩, fun c => ?_, ?_⟩
  · obtain ⟨v, hv, hl⟩ := h.tab c
    refine ⟨v, (cell_of_heapR hR _).trans hv, ?_⟩
    cases hq : ps.lookup c with
    | none => rw [hq] at hl; exact hl
    | some s =>
      rw [hq] at hl
      exact SliceB.keeps hl fun g cur fz hg => hk g cur fz (.inl hg)
  · obtain ⟨v, hv, hown⟩ := h.tr
    exact ⟨v, (cell_of_heapR hR _).trans hv, ownsS.kept hown fun g cur fz hg => hk g cur fz (.inr hg)⟩
theorem Tab.below {w w' : World} {R B : Nat} {ps : List (UInt8 × ByteArray)} (h : Tab w R B ps) (hb : Below w.heap.size w w') : Tab w' R B ps := by
  obtain ⟨cs, hrow, hsz⟩ := h.row
  exact h.kept (hb.block R (lt_of_block hrow)) fun g cur fz hg => by
    rcases hg with hg | hg <;> exact hb.block g (lt_of_block hg)
/-- a write into another block leaves the table -/
theorem Tab.set {w : World} {R B r j : Nat} {ps : List (UInt8 × ByteArray)} {cs : Array Value} {fz : Nat × Nat} {x : Value} (h : Tab w R B ps) (hr : w.heap[r]? = some (Obj.cells cs 150 fz)) : Tab (w.setCell ⟨r, j, none⟩ x) R B ps := by
  obtain ⟨cs', hrow, hsz⟩ := h.row
  exact h.kept (Below.heap_setCell _ _ _ _ (other_type hrow hr (by decide))) fun g cur fz hg => by
    rcases hg with hg | hg <;> exact Below.heap_setCell _ _ _ _ (other_type hg hr (by decide))
end Go.Proofs.YtgimgkjggaijoaaGreatDoor
