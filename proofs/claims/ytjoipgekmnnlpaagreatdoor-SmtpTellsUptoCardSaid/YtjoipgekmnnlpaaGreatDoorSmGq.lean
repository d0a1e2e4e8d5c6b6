/- Walks: a strings.Builder whose every other block stands. Walks: a mail session in memory; reset, hello, ehlo, helo, rset, quit. Walks: a mail session: ehlo, helo, rset, quit, data. Walks: a mail session: New, Greeting, Over. Walks: a mail session: Answer. Walks: a mail session: bare and its closures. -/
import Derived.Test.YtjoipgekmnnlpaaGreatDoorKitQ
import Derived.Test.YtjoipgekmnnlpaaGreatDoorSmAd
import Derived.Test.YtjoipgekmnnlpaaGreatDoorBldR
import Derived.Lib.ItoaLen
namespace Go.Proofs.YtjoipgekmnnlpaaGreatDoor
open Go.RowKit Go.Shelf Go.Lib Pk Sm

/-- all but these blocks stands -/
structure Fr (X : Nat → Prop) (w w' : World) : Prop where
  os : w'.os = w.os
  tape : w'.tape = w.tape
  output : w'.output = w.output
  size : w.heap.size ≤ w'.heap.size
  block : ∀ k, k < w.heap.size → ¬ X k → w'.heap[k]? = w.heap[k]?
theorem Fr.refl (X : Nat → Prop) (w : World) : Fr X w w := ⟨rfl, rfl, rfl, Nat.le_refl _, fun _ _ _ => rfl⟩
theorem Fr.trans {X Y : Nat → Prop} {a b c : World} (h : Fr X a b) (k : Fr Y b c) (hY : ∀ g, Y g → X g ∨ a.heap.size ≤ g) : Fr X a c :=
  ⟨k.os.trans h.os, k.tape.trans h.tape, k.output.trans h.output, Nat.le_trans h.size k.size, fun g hg hx => (k.block g (Nat.lt_of_lt_of_le hg h.size) (fun e => by rcases hY g e with e | e; exact hx e; omega)).trans (h.block g hg hx)⟩
theorem Fr.of_below {X : Nat → Prop} {w w' : World} (h : Below w.heap.size w w') : Fr X w w' := ⟨h.os, h.tape, h.output, h.size, fun k hk _ => h.block k hk⟩
theorem Fr.below {X : Nat → Prop} {G : Nat} {wb w w' : World} (h : Below G wb w) (hG : G ≤ w.heap.size) (hX : ∀ k, X k → G ≤ k) (f : Fr X w w') : Below G wb w' :=
  ⟨f.os.trans h.os, f.tape.trans h.tape, f.output.trans h.output, Nat.le_trans h.size f.size, fun k hk => (f.block k (by omega) (fun e => by have := hX k e; omega)).trans (h.block k hk)⟩
theorem Fr.setCell {X : Nat → Prop} {a w : World} (h : Fr X a w) {b o : Nat} (hb : X b) (u : Value) : Fr X a (w.setCell ⟨b, o, none⟩ u) :=
  ⟨h.os, h.tape, h.output, by simp [World.setCell]; exact h.size, fun k hk hx => (Below.heap_setCell _ _ _ _ (fun e => hx (by rw [e]; exact hb))).trans (h.block k hk hx)⟩
theorem Fr.mono {X Y : Nat → Prop} {a w : World} (h : Fr X a w) (hY : ∀ g, X g → Y g) : Fr Y a w := ⟨h.os, h.tape, h.output, h.size, fun k hk hx => h.block k hk fun e => hx (hY k e)⟩
def Bk (sb k : Nat) : Prop := k = sb
/-- the builder in block b with its bytes; its slice v -/
def BQ (w : World) (b : Nat) (v : Value) (l : List UInt8) : Prop :=
  (∃ p, (p = .pointer none ∨ p = .pointer (some ⟨b, 0, none⟩)) ∧ w.heap[b]? = some (.cells #[p, v] 69 (0, 0))) ∧ v.ownBlock ≠ some b ∧ Qs byL False w 5 v l ∧ (l = [] → v = .slice none 0 0) ∧ OffZ v
theorem BQ.lt {w : World} {b : Nat} {v : Value} {l : List UInt8} (h : BQ w b v l) : b < w.heap.size := by
  obtain ⟨⟨p, -, h2⟩, -⟩ := h
  exact lt_of_block h2
theorem BQ.kept {w w' : World} {b : Nat} {v : Value} {l : List UInt8} (h : BQ w b v l) (hb : w'.heap[b]? = w.heap[b]?) (hk : ∀ g, v.ownBlock = some g → w'.heap[g]? = w.heap[g]?) : BQ w' b v l := by
  obtain ⟨⟨p, h1, h2⟩, h3, h4, h5⟩ := h
  exact ⟨⟨p, h1, hb.trans h2⟩, h3, h4.kept hk, h5⟩
theorem BQ.new {w : World} {b : Nat} (h : w.heap[b]? = some (.cells #[.pointer none, .slice none 0 0] 69 (0, 0))) : BQ w b (.slice none 0 0) [] :=
  ⟨⟨_, .inl rfl, h⟩, by simp [Value.ownBlock], Qs.nil _ _ _ _, fun _ => rfl, fun _ _ _ e => by cases e⟩
/-- a method of the builder: b and its row may turn -/
def BX (b : Nat) (v : Value) (k : Nat) : Prop := k = b ∨ v.ownBlock = some k
theorem ccQ (b : Nat) (v : Value) (l : List UInt8) (w : World) (h : BQ w b v l) :
    Calls Tryz.prog 55 #[.pointer (some ⟨b, 0, none⟩)] w fun e w' => e = .returned (.tuple #[]) ∧ w'.heap[b]? = some (.cells #[.pointer (some ⟨b, 0, none⟩), v] 69 (0, 0)) ∧ Fr (Bk b) w w' ∧ w'.heap.size = w.heap.size := by
  obtain ⟨⟨p, hp, hbk⟩, -⟩ := h
  have c0 : w.cell? ⟨b, 0, none⟩ = some p := (Lib.cell_of_heap hbk _).trans rfl
  rcases hp with rfl | rfl
  · refine (Any.Builder_copyCheck_fresh { Tryz.hays167 with } Tryz.hextra167.toX72 b w c0 (by simp [World.shape?, hbk]; rfl) (by simp [World.frozen?, hbk])).mono ?_
    rintro e w' ⟨rfl, rfl⟩
    exact ⟨rfl, by simp [World.setCell, Array.getElem?_modify, hbk], (Fr.refl (Bk b) _).setCell (by rfl) _, by simp⟩
  · refine (Any.Builder_copyCheck_used { Tryz.hays167 with } Tryz.hextra167.toX72 b w c0).mono ?_
    rintro e w' ⟨rfl, rfl⟩
    exact ⟨rfl, hbk, Fr.refl _ _, rfl⟩
theorem bytesG : GSl byL 1 Tryz.prog 67 5 := GSl.of Tryz.underlying67 (by kernel_rfl)
theorem after_q {w1 w2 : World} {b : Nat} {p v : Value} {T : TypeId} (hbk : w1.heap[b]? = some (.cells #[p, v] T (0, 0))) (hgrow : w1.grownBy w2 v.ownBlock) (hne : v.ownBlock ≠ some b) :
    w2.heap[b]? = some (.cells #[p, v] T (0, 0)) ∧ w2.cell? ⟨b, 0, none⟩ = some p ∧ w2.cell? ⟨b, 1, none⟩ = some v ∧ w2.frozen? ⟨b, 1, none⟩ = false := by
  have h : w2.heap[b]? = some (.cells #[p, v] T (0, 0)) := by
    rw [hgrow.block b (lt_of_block hbk) (fun e => hne e.symm)]
    exact hbk
  exact ⟨h, (Lib.cell_of_heap h _).trans rfl, (Lib.cell_of_heap h _).trans rfl, by simp [World.frozen?, h]⟩
theorem after_w {w w1 w2 : World} {b : Nat} {v : Value} (hk : Fr (Bk b) w w1) (hg : w1.grownBy w2 v.ownBlock) : Fr (BX b v) w w2 :=
  (hk.mono fun _ e => Or.inl e).trans (Y := fun k => v.ownBlock = some k) ⟨hg.os, hg.tape, hg.output, hg.size, fun k hk hx => hg.block k hk fun e => hx e.symm⟩ fun _ e => .inl (.inr e)
set_option maxHeartbeats 2000000 in
set_option maxRecDepth 100000 in
theorem wsQ (b : Nat) (v : Value) (l : List UInt8) (s : ByteArray) (w : World) (h : BQ w b v l) (hlen : l.length + s.size ≤ 140737488355328) :
    Calls Tryz.prog 36 #[.pointer (some ⟨b, 0, none⟩), .string s] w fun e w' => e = .returned (.tuple #[.int .i64 s.size, .nilIface]) ∧ ∃ v', BQ w' b v' (l ++ s.data.toList) ∧ NewOwn w v v' ∧ Fr (BX b v) w w' := by
  have HC := Lib.hid (ccQ b v l w h)
  have hq := h.2.2.1
  have hne := h.2.1
  have hnil := h.2.2.2.1
  have hoz := h.2.2.2.2
  have hlt := h.lt
  clear h
  go_enter Tryz.func36, Tryz.ntmps36
  go_wp2_with fail
  refine HC.out.mono ?_
  rintro e w1 ⟨rfl, hbk, hk1, hs1⟩
  have c1 : w1.cell? ⟨b, 1, none⟩ = some v := (Lib.cell_of_heap hbk _).trans rfl
  have hq1 : Qs byL False w1 5 v l := hq.kept fun g e => hk1.block g (hq.lt e) fun e' => hne (by rw [e, show g = b from e'])
  have HK := Lib.hid hk1
  have HN := Lib.hid hne
  have HNL := Lib.hid hnil
  have HOZ := Lib.hid hoz
  have HS := Lib.hid hs1
  have HL := Lib.hid hlt
  have HQ := Lib.hid hq1
  have HB := Lib.hid hbk
  clear hk1 hne hnil hoz hs1 hlt hq1 hbk hq
  go_wp2_with (at_builtin; refine append_q rfl (.tmp 12) (.tmp 13) bytesG rfl rfl HQ.out (.string s) s.data.toList rfl (src_str _ Tryz.underlying9 s) (by rw [Nat.mul_one]; exact hlen) hlen ?_; intro v' w2 hq2 hg2 hn2; obtain ⟨hbk2, d0, d1, f1⟩ := after_q HB.out hg2 HN.out; have HX := Lib.hid (after_w HK.out hg2); have HY := Lib.hid (hn2 : NewOwn w1 v v' ∧ (s.data.toList = [] → v' = v) ∧ (OffZ v → OffZ v')); obtain ⟨p2, c2, hf2, hc2⟩ := hq2.form; subst hf2; have HQ2 := Lib.hid hq2; have HB2 := Lib.hid hbk2; clear hq2 hg2 hn2 hbk2 d0 hc2)
  go_ret2
  have hq2 := HQ2.out
  have hbk2 := HB2.out
  have hne2 : (Value.slice p2 (l ++ s.data.toList).length c2).ownBlock ≠ some b := by
    rcases HY.out.1 with h | h
    · rw [h]; exact HN.out
    · intro e
      have := h b e
      have := HL.out
      have := HS.out
      omega
  have hsz : ∀ u, (w2.setCell ⟨b, 1, none⟩ u).heap.size = w2.heap.size := fun u => by simp [World.setCell]
  refine ⟨rfl, .slice p2 (l ++ s.data.toList).length c2, ⟨⟨_, .inr rfl, ?_⟩, hne2, ?_, fun e => ?_, HY.out.2.2 HOZ.out⟩, ?_, HX.out.setCell (.inl rfl) _⟩
  · simp [World.setCell, Array.getElem?_modify, hbk2]
  · exact hq2.kept fun g e => Below.heap_setCell _ _ _ _ fun e' => hne2 (by rw [e, e'])
  · obtain ⟨e1, e2⟩ := List.append_eq_nil_iff.1 e
    rw [HY.out.2.1 e2]; exact HNL.out e1
  · rcases HY.out.1 with h | h
    · exact .inl h
    · exact .inr fun k hk => by have := h k hk; have := HS.out; omega
theorem fzb {lo hi n : Nat} (h : hi ≤ n) : (if (lo == hi) = true then (0, 0 + n) else (min lo 0, max hi (0 + n))).2 ≤ 0 + n * 1 := by
  split <;> simp <;> omega
set_option maxHeartbeats 2000000 in
set_option maxRecDepth 100000 in
theorem stQ (b : Nat) (v : Value) (l : List UInt8) (w : World) (h : BQ w b v l) (hlen : l.length ≤ 140737488355328) :
    Calls Tryz.prog 39 #[.pointer (some ⟨b, 0, none⟩)] w fun e w' => e = .returned (.string (bt l)) ∧ BQ w' b v l ∧ Fr (fun k => v.ownBlock = some k) w w' := by
  obtain ⟨⟨p, hp, hbk⟩, hne, hq, hnil, hoz⟩ := h
  have c1 : w.drew.cell? ⟨b, 1, none⟩ = some v := (Lib.cell_of_heap (w := w.drew) hbk _).trans rfl
  have mixed := Tryz.hays169.mixed
  by_cases h0 : l = []
  · have hv := hnil h0
    subst h0
    subst hv
    have hb : BQ w.drew b (.slice none 0 0) [] := ⟨⟨p, hp, hbk⟩, hne, hq, hnil, hoz⟩
    have hUS := fun W q => Any.unsafeString_none Tryz.hays169 Tryz.hextra169 W q
    have hSD : (Builtin.unsafeSliceData_ #[67] 94 #[.slice none 0 0]).run Tryz.prog w.drew = .ok (.pointer none) w.drew := rfl
    have hUS2 : (Builtin.unsafeString_ #[94, 3] 9 #[.pointer none, .int .i64 0]).run Tryz.prog w.drew = .ok (.string ⟨#[]⟩) w.drew := hUS _ _
    clear hq hnil hbk hne hlen hoz hUS
    go_enter Tryz.func39, Tryz.ntmps39
    go_wp2
    go_region_o
    all_goals (go_wp2; go_ret; exact ⟨rfl, hb, Fr.of_below (Below.refl _ _).drew⟩)
  · rcases hq with ⟨-, e⟩ | ⟨g, o, cap, cur, fz, rfl, h1, h2, h3, h4, h5, -, h6⟩
    · exact absurd e h0
    · obtain rfl : o = 0 := hoz _ _ _ rfl
      have hgb : g ≠ b := fun e => hne (by rw [e]; rfl)
      have hl0 : l.length ≠ 0 := by simpa using h0
      rw [byL_enc] at h6
      have hk1 : byL.k = 1 := rfl
      rw [hk1] at h4 h5
      have hSD : (Builtin.unsafeSliceData_ #[67] 94 #[.slice (some ⟨g, 0, none⟩) l.length cap]).run Tryz.prog w.drew = .ok (.pointer (some ⟨g, 0, none⟩)) w.drew :=
        Lib.run_unsafeSliceData_row _ _ _ _ _ _ (by omega)
      have hUS : (Builtin.unsafeString_ #[94, 3] 9 #[.pointer (some ⟨g, 0, none⟩), .int .i64 l.length]).run Tryz.prog w.drew = .ok (.string (bt l)) (w.drew.freeze ⟨g, 0, none⟩ l.length) := by
        refine Lib.run_unsafeString_row w.drew 94 3 9 5 Tryz.hays169.t127 Tryz.hextra169.cellsByte g cur.size (by have hg' : w.drew.heap[g]? = some (.cells cur 5 fz) := h3; simp [World.shape?, hg']) l h0 (by omega) (by omega) ?_
        intro j x hx
        rw [Addr.add_lit]
        refine (cell_cur (w := w.drew) h3 _).trans (h6 j _ ?_)
        rw [List.getElem?_map, hx]; rfl
      have hother : ∀ k, k ≠ g → (w.drew.freeze ⟨g, 0, none⟩ l.length).heap[k]? = w.heap[k]? := fun k hk => by
        unfold World.freeze
        rw [if_neg hl0]
        simp only [Array.getElem?_modify]
        rw [if_neg (fun e => hk e.symm)]
        rfl
      have hown : (w.drew.freeze ⟨g, 0, none⟩ l.length).heap[g]? = some (.cells cur 5 (if (fz.1 == fz.2) = true then (0, 0 + l.length) else (min fz.1 0, max fz.2 (0 + l.length)))) := by
        unfold World.freeze
        rw [if_neg hl0]
        simp only [Array.getElem?_modify]
        rw [if_pos trivial]
        show (w.heap[g]?).map _ = _
        rw [h3]
        obtain ⟨a, b⟩ := fz
        rfl
      have hsz : (w.drew.freeze ⟨g, 0, none⟩ l.length).heap.size = w.heap.size := by
        unfold World.freeze
        rw [if_neg hl0]
        simp
      have hB : BQ (w.drew.freeze ⟨g, 0, none⟩ l.length) b (.slice (some ⟨g, 0, none⟩) l.length cap) l :=
        ⟨⟨p, hp, (hother b (fun e => hgb e.symm)).trans hbk⟩, hne, .inr ⟨g, 0, cap, cur, _, rfl, h1, h2, hown, h4, fzb (by omega), False.elim, by rw [byL_enc]; exact h6⟩, hnil, hoz⟩
      have hos : (w.drew.freeze ⟨g, 0, none⟩ l.length).os = w.os ∧ (w.drew.freeze ⟨g, 0, none⟩ l.length).tape = w.tape ∧ (w.drew.freeze ⟨g, 0, none⟩ l.length).output = w.output := by
        unfold World.freeze
        rw [if_neg hl0]
        exact ⟨rfl, rfl, rfl⟩
      have hfr : Fr (fun k => (Value.slice (some ⟨g, 0, none⟩) l.length cap).ownBlock = some k) w (w.drew.freeze ⟨g, 0, none⟩ l.length) := ⟨hos.1, hos.2.1, hos.2.2, by rw [hsz]; exact Nat.le_refl _, fun k _ hx => hother k fun e => hx (by rw [e]; rfl)⟩
      have HB := Lib.hid (And.intro hB hfr)
      clear hfr hos
      clear hB hsz hother hown hgb hl0 hoz hnil hne h1 h2 h3 h4 h5 h6 hbk hp hlen hk1 h0
      go_enter Tryz.func39, Tryz.ntmps39
      go_wp2
      go_region_o
      all_goals (go_wp2; go_ret; obtain ⟨y1, y2⟩ := HB.out; exact ⟨rfl, y1, y2⟩)
theorem lenQ (b : Nat) (v : Value) (l : List UInt8) (w : World) (h : BQ w b v l) :
    Calls Tryz.prog 57 #[.pointer (some ⟨b, 0, none⟩)] w fun e w' => e = .returned (.int .i64 l.length) ∧ w' = w := by
  obtain ⟨⟨p, hp, hbk⟩, hne, hq, hnil, hoz⟩ := h
  have c1 : w.cell? ⟨b, 1, none⟩ = some v := (Lib.cell_of_heap (w := w) hbk _).trans rfl
  obtain ⟨q, c, rfl, -⟩ := hq.form
  clear hq hnil hoz hne hbk hp
  go_enter Tryz.func57, Tryz.ntmps57
  go_wp2
  go_ret
  exact ⟨rfl, rfl⟩
end Go.Proofs.YtjoipgekmnnlpaaGreatDoor
namespace Go.Proofs.YtjoipgekmnnlpaaGreatDoor
open Go.RowKit Go.Shelf Go.Lib Pk Sm

/-- what the program's variables hold; blocks below G are not the session's -/
def Ctx (G : Nat) (w : World) : Prop := ∃ wb, wb.heap.size = G ∧ SaidAt wb ∧ TabN wb ∧ U8T wb ∧ (∃ m : Int, wb.cell? ⟨3, 0, none⟩ = some (.int .i64 m)) ∧ (∃ ev, wb.cell? ⟨2, 0, none⟩ = some ev ∧ (ev = .nilIface ∨ ∃ te pe, ev = .iface te pe)) ∧ Below G wb w
theorem Ctx.le {G : Nat} {w : World} (h : Ctx G w) : G ≤ w.heap.size := by
  obtain ⟨wb, rfl, -, -, -, -, -, h⟩ := h
  exact h.size
theorem Ctx.said {G : Nat} {w : World} (h : Ctx G w) : SaidAt w := by
  obtain ⟨wb, rfl, h1, -, -, -, -, h⟩ := h
  exact h1.later h
theorem Ctx.tab {G : Nat} {w : World} (h : Ctx G w) : TabN w := by
  obtain ⟨wb, rfl, -, h1, -, -, -, h⟩ := h
  exact h1.later h
theorem Ctx.u8 {G : Nat} {w : World} (h : Ctx G w) : U8T w := by
  obtain ⟨wb, rfl, -, -, h1, -, -, h⟩ := h
  exact h1.later h
theorem Ctx.max {G : Nat} {w : World} (h : Ctx G w) : ∃ m : Int, w.cell? ⟨3, 0, none⟩ = some (.int .i64 m) := by
  obtain ⟨wb, rfl, -, -, -, ⟨m, h1⟩, -, h⟩ := h
  exact ⟨m, cell_laterM h h1⟩
theorem Ctx.err {G : Nat} {w : World} (h : Ctx G w) : ∃ ev, w.cell? ⟨2, 0, none⟩ = some ev ∧ (ev = .nilIface ∨ ∃ te pe, ev = .iface te pe) := by
  obtain ⟨wb, rfl, -, -, -, -, ⟨ev, h1, h2⟩, h⟩ := h
  exact ⟨ev, cell_laterM h h1, h2⟩
theorem Ctx.fr {G : Nat} {w w' : World} {X : Nat → Prop} (h : Ctx G w) (hX : ∀ k, X k → G ≤ k) (f : Fr X w w') : Ctx G w' := by
  have hl := h.le
  obtain ⟨wb, h0, h1, h2, h3, h4, h5, h6⟩ := h
  exact ⟨wb, h0, h1, h2, h3, h4, h5, Fr.below h6 hl hX f⟩
theorem Ctx.below {G : Nat} {w w' : World} (h : Ctx G w) (f : Below w.heap.size w w') : Ctx G w' := h.fr (X := fun _ => False) (fun _ e => e.elim) (Fr.of_below f)
/-- the session's block -/
def Raw (w : World) (sb : Nat) (most : Int) (fp kv : Value) (g : Bool) (sp tv bp : Value) (lg wt ov : Bool) : Prop :=
  w.heap[sb]? = some (.cells #[.int .i64 most, fp, kv, .bool g, sp, tv, bp, .bool lg, .bool wt, .bool ov] 62 (0, 0))
section
variable {w : World} {sb : Nat} {most : Int} {fp kv sp tv bp : Value} {g lg wt ov : Bool}
theorem Raw.cells (h : Raw w sb most fp kv g sp tv bp lg wt ov) : (w.cell? ⟨sb, 0, none⟩ = some (.int .i64 most) ∧ w.cell? ⟨sb, 1, none⟩ = some fp ∧ w.cell? ⟨sb, 2, none⟩ = some kv ∧ w.cell? ⟨sb, 3, none⟩ = some (.bool g) ∧ w.cell? ⟨sb, 4, none⟩ = some sp ∧ w.cell? ⟨sb, 5, none⟩ = some tv ∧ w.cell? ⟨sb, 6, none⟩ = some bp ∧ w.cell? ⟨sb, 7, none⟩ = some (.bool lg) ∧ w.cell? ⟨sb, 8, none⟩ = some (.bool wt) ∧ w.cell? ⟨sb, 9, none⟩ = some (.bool ov)) ∧ ∀ i, w.frozen? ⟨sb, i, none⟩ = false := by
  unfold Raw at h
  refine ⟨⟨?_, ?_, ?_, ?_, ?_, ?_, ?_, ?_, ?_, ?_⟩, fun i => by simp [World.frozen?, h]⟩ <;> exact (Lib.cell_of_heap h _).trans rfl
theorem Raw.lt (h : Raw w sb most fp kv g sp tv bp lg wt ov) : sb < w.heap.size := lt_of_block h
theorem Raw.set2 (h : Raw w sb most fp kv g sp tv bp lg wt ov) (u : Value) : Raw (w.setCell ⟨sb, 2, none⟩ u) sb most fp u g sp tv bp lg wt ov := by
  unfold Raw at *
  simp [World.setCell, Array.getElem?_modify, h]
theorem Raw.set3 (h : Raw w sb most fp kv g sp tv bp lg wt ov) (u : Bool) : Raw (w.setCell ⟨sb, 3, none⟩ (.bool u)) sb most fp kv u sp tv bp lg wt ov := by
  unfold Raw at *
  simp [World.setCell, Array.getElem?_modify, h]
theorem Raw.set4 (h : Raw w sb most fp kv g sp tv bp lg wt ov) (u : Value) : Raw (w.setCell ⟨sb, 4, none⟩ u) sb most fp kv g u tv bp lg wt ov := by
  unfold Raw at *
  simp [World.setCell, Array.getElem?_modify, h]
theorem Raw.set5 (h : Raw w sb most fp kv g sp tv bp lg wt ov) (u : Value) : Raw (w.setCell ⟨sb, 5, none⟩ u) sb most fp kv g sp u bp lg wt ov := by
  unfold Raw at *
  simp [World.setCell, Array.getElem?_modify, h]
theorem Raw.set6 (h : Raw w sb most fp kv g sp tv bp lg wt ov) (u : Value) : Raw (w.setCell ⟨sb, 6, none⟩ u) sb most fp kv g sp tv u lg wt ov := by
  unfold Raw at *
  simp [World.setCell, Array.getElem?_modify, h]
theorem Raw.set7 (h : Raw w sb most fp kv g sp tv bp lg wt ov) (u : Bool) : Raw (w.setCell ⟨sb, 7, none⟩ (.bool u)) sb most fp kv g sp tv bp u wt ov := by
  unfold Raw at *
  simp [World.setCell, Array.getElem?_modify, h]
theorem Raw.set8 (h : Raw w sb most fp kv g sp tv bp lg wt ov) (u : Bool) : Raw (w.setCell ⟨sb, 8, none⟩ (.bool u)) sb most fp kv g sp tv bp lg u ov := by
  unfold Raw at *
  simp [World.setCell, Array.getElem?_modify, h]
theorem Raw.set9 (h : Raw w sb most fp kv g sp tv bp lg wt ov) (u : Bool) : Raw (w.setCell ⟨sb, 9, none⟩ (.bool u)) sb most fp kv g sp tv bp lg wt u := by
  unfold Raw at *
  simp [World.setCell, Array.getElem?_modify, h]
theorem Raw.later {w' : World} (h : Raw w sb most fp kv g sp tv bp lg wt ov) (hb : Below w.heap.size w w') : Raw w' sb most fp kv g sp tv bp lg wt ov := (hb.block sb h.lt).trans h
end
set_option maxRecDepth 100000 in
theorem reset_any (w : World) (sb : Nat) (most : Int) (fp kv sp tv bp : Value) (g lg wt ov : Bool) (h : Raw w sb most fp kv g sp tv bp lg wt ov) :
    Calls Tryz.prog 44 #[.pointer (some ⟨sb, 0, none⟩)] w fun e w' => e = .returned (.tuple #[]) ∧ Raw w' sb most fp kv g (.pointer none) (.slice none 0 0) bp lg wt ov ∧ Fr (Bk sb) w w' := by
  obtain ⟨⟨-, -, -, -, c4, c5, -⟩, hf⟩ := h.cells
  have f4 := hf 4
  have f5 := hf 5
  have H := Lib.hid h
  clear hf h
  go_enter Tryz.func44, Tryz.ntmps44
  go_wp2
  refine bodyPost_end (results_none rfl _ _ _) (by rfl) ?_
  exact ⟨rfl, (H.out.set4 _).set5 _, ((Fr.refl (Bk sb) _).setCell (by rfl) _).setCell (by rfl) _⟩
/-- what hello leaves -/
def HelP (w w' : World) (sb : Nat) (most : Int) (fp kv : Value) (g : Bool) (sp tv bp : Value) (lg wt ov : Bool) (rest : ByteArray) : Prop :=
  (if rest.size = 0 then Raw w' sb most fp kv g sp tv bp lg wt ov else Raw w' sb most fp kv true (.pointer none) (.slice none 0 0) bp lg wt ov) ∧ Fr (Bk sb) w w'
def helR (rest more : ByteArray) : ByteArray := if rest.size = 0 then bt (repW 501) else more ++ bt (repW 250)
set_option maxHeartbeats 1000000 in
set_option maxRecDepth 100000 in
theorem hello_any (G : Nat) (w : World) (sb : Nat) (most : Int) (fp kv sp tv bp : Value) (g lg wt ov : Bool) (rest more : ByteArray) (hC : Ctx G w) (hG : G ≤ sb) (h : Raw w sb most fp kv g sp tv bp lg wt ov) (hm : more.size ≤ 1000) :
    Calls Tryz.prog 91 #[.pointer (some ⟨sb, 0, none⟩), .string rest, .string more] w fun e w' => e = .returned (.string (helR rest more)) ∧ HelP w w' sb most fp kv g sp tv bp lg wt ov rest := by
  unfold helR
  by_cases h0 : rest.size = 0
  · rw [if_pos h0]
    have HR := Lib.hid (reply_any 501 w (by decide) (by decide) hC.said hC.tab)
    have q := str_nile h0
    have H := Lib.hid h
    have h0' := Lib.hid h0
    clear h hC hG h0
    go_enter Tryz.func91, Tryz.ntmps91
    go_wp2_with fail
    refine HR.out.mono ?_
    rintro e w1 ⟨rfl, hb1⟩
    go_wp2
    go_ret
    exact ⟨rfl, by unfold HelP; rw [if_pos h0'.out]; exact ⟨H.out.later hb1, Fr.of_below hb1⟩⟩
  · rw [if_neg h0]
    obtain ⟨R, hR⟩ : ∃ R, R = bt (repW 250) := ⟨_, rfl⟩
    rw [← hR]
    have HRe := Lib.hid (And.intro hR (Nat.zero_le R.size))
    clear hR
    have q := str_neq (Nat.pos_of_ne_zero h0)
    obtain ⟨⟨-, -, -, c3, -⟩, hf⟩ := h.cells
    have f3 := hf 3
    have h1 := h.set3 true
    have HZ := Lib.hid (reset_any _ _ _ _ _ _ _ _ _ _ _ _ h1)
    have hF : Fr (Bk sb) w (w.setCell ⟨sb, 3, none⟩ (.bool true)) := (Fr.refl (Bk sb) _).setCell (by rfl) _
    have HX := Lib.hid (And.intro hC (And.intro hG hF))
    have hm' := Lib.hid hm
    have h0' := Lib.hid h0
    clear h hC hG h0 hf h1 hF hm
    go_enter Tryz.func91, Tryz.ntmps91
    go_wp2_with fail
    refine HZ.out.mono ?_
    rintro e w1 ⟨rfl, h2, f2⟩
    obtain ⟨hC, hG, hF⟩ := HX.out
    have f3 : Fr (Bk sb) w w1 := hF.trans f2 (fun _ e => .inl e)
    have hC1 : Ctx G w1 := hC.fr (fun k e => by rw [e]; exact hG) f3
    have hr := reply_any 250 w1 (by decide) (by decide) hC1.said hC1.tab
    rw [← HRe.out.1] at hr
    have HR := Lib.hid hr
    have t1 : ¬ 9223372036854775807 < more.size + R.size := by
      have : R.size = 8 := by rw [HRe.out.1]; rfl
      have := hm'.out
      omega
    clear hr
    have HY := Lib.hid (And.intro f3 h2)
    clear f3 hC1 hC hG hF f2 h2
    go_wp2_with fail
    refine HR.out.mono ?_
    rintro e w2 ⟨rfl, hb2⟩
    go_wp2
    go_ret
    obtain ⟨f3, h2⟩ := HY.out
    exact ⟨rfl, by unfold HelP; rw [if_neg h0'.out]; exact ⟨h2.later hb2, f3.trans (Fr.of_below (X := fun _ => False) hb2) (fun _ e => e.elim)⟩⟩
end Go.Proofs.YtjoipgekmnnlpaaGreatDoor
namespace Go.Proofs.YtjoipgekmnnlpaaGreatDoor
open Go.RowKit Go.Shelf Go.Lib Pk Sm

variable {G : Nat} {w : World} {sb : Nat} {most : Int} {fp kv sp tv bp : Value} {g lg wt ov : Bool}
/-- a reply behind what has turned -/
theorem reply_at (n : Nat) (h0 : 100 ≤ n) (h1 : n < 1000) (hC : Ctx G w) : Calls Tryz.prog 33 #[.int .i64 n] w fun e w' => e = .returned (.string (bt (repW n))) ∧ Below w.heap.size w w' := reply_any n w h0 h1 hC.said hC.tab
theorem Ctx.own {w' : World} (h : Ctx G w) (hG : G ≤ sb) (f : Fr (Bk sb) w w') : Ctx G w' := h.fr (fun k e => by rw [show k = sb from e]; exact hG) f
theorem Fr.then {X : Nat → Prop} {w' w2 : World} (h : Fr X w w') (hb : Below w'.heap.size w' w2) : Fr X w w2 := h.trans (Fr.of_below (X := fun _ => False) hb) (fun _ e => e.elim)
set_option maxHeartbeats 1000000 in
set_option maxRecDepth 100000 in
theorem rset_any (hC : Ctx G w) (hG : G ≤ sb) (h : Raw w sb most fp kv g sp tv bp lg wt ov) :
    Calls Tryz.prog 65 #[.pointer (some ⟨sb, 0, none⟩)] w fun e w' => e = .returned (.string (bt (repW 250))) ∧ Raw w' sb most fp kv g (.pointer none) (.slice none 0 0) bp lg wt ov ∧ Fr (Bk sb) w w' := by
  have HZ := Lib.hid (reset_any _ _ _ _ _ _ _ _ _ _ _ _ h)
  have HX := Lib.hid (And.intro hC hG)
  clear h hC hG
  go_enter Tryz.func65, Tryz.ntmps65
  go_wp2_with fail
  refine HZ.out.mono ?_
  rintro e w1 ⟨rfl, h2, f2⟩
  have HR := Lib.hid (reply_at 250 (by decide) (by decide) (HX.out.1.own HX.out.2 f2))
  have HY := Lib.hid (And.intro f2 h2)
  clear f2 h2
  go_wp2_with fail
  refine HR.out.mono ?_
  rintro e w2 ⟨rfl, hb2⟩
  go_wp2
  go_ret
  exact ⟨rfl, HY.out.2.later hb2, HY.out.1.then hb2⟩
set_option maxHeartbeats 1000000 in
set_option maxRecDepth 100000 in
theorem quit_any (hC : Ctx G w) (hG : G ≤ sb) (h : Raw w sb most fp kv g sp tv bp lg wt ov) :
    Calls Tryz.prog 66 #[.pointer (some ⟨sb, 0, none⟩)] w fun e w' => e = .returned (.string (bt (repW 221))) ∧ Raw w' sb most fp kv g sp tv bp lg wt true ∧ Fr (Bk sb) w w' := by
  have h2 := h.set9 true
  have f2 : Fr (Bk sb) w (w.setCell ⟨sb, 9, none⟩ (.bool true)) := (Fr.refl (Bk sb) _).setCell (by rfl) _
  have HR := Lib.hid (reply_at 221 (by decide) (by decide) (hC.own hG f2))
  have HY := Lib.hid (And.intro f2 h2)
  obtain ⟨⟨-, -, -, -, -, -, -, -, -, c9⟩, hf⟩ := h.cells
  have f9 := hf 9
  clear h hC hG hf f2 h2
  go_enter Tryz.func66, Tryz.ntmps66
  go_wp2_with fail
  refine HR.out.mono ?_
  rintro e w2 ⟨rfl, hb2⟩
  go_wp2
  go_ret
  exact ⟨rfl, HY.out.2.later hb2, HY.out.1.then hb2⟩
set_option maxHeartbeats 1000000 in
set_option maxRecDepth 100000 in
theorem helo_any (rest : ByteArray) (hC : Ctx G w) (hG : G ≤ sb) (h : Raw w sb most fp kv g sp tv bp lg wt ov) :
    Calls Tryz.prog 60 #[.pointer (some ⟨sb, 0, none⟩), .string rest] w fun e w' => e = .returned (.string (helR rest ⟨#[]⟩)) ∧ HelP w w' sb most fp kv g sp tv bp lg wt ov rest := by
  have HH := Lib.hid (hello_any G w sb most fp kv sp tv bp g lg wt ov rest ⟨#[]⟩ hC hG h (by decide))
  generalize helR rest ⟨#[]⟩ = R at *
  clear h hC hG
  go_enter Tryz.func60, Tryz.ntmps60
  go_wp2_with fail
  refine HH.out.mono ?_
  rintro e w1 ⟨rfl, h2⟩
  have H2 := Lib.hid h2
  clear h2
  go_wp2
  go_ret
  exact ⟨rfl, H2.out⟩
set_option maxHeartbeats 1000000 in
set_option maxRecDepth 100000 in
theorem ehlo_any (m : Nat) (hm : m ≤ 65536) (rest : ByteArray) (hC : Ctx G w) (hG : G ≤ sb) (h : Raw w sb m fp kv g sp tv bp lg wt ov) :
    Calls Tryz.prog 59 #[.pointer (some ⟨sb, 0, none⟩), .string rest] w fun e w' => e = .returned (.string (helR rest (bt (ehloL m)))) ∧ HelP w w' sb m fp kv g sp tv bp lg wt ov rest := by
  have hT := text_any m w (by omega) (by omega) hC.tab
  have hT0 := Lib.itoa_length_le (m : Int) (by omega) (by omega)
  have hE : bt (ehloL m) = ⟨#[50, 53, 48, 45, 112, 111, 117, 99, 104, 13, 10, 50, 53, 48, 45, 80, 73, 80, 69, 76, 73, 78, 73, 78, 71, 13, 10, 50, 53, 48, 45, 83, 73, 90, 69, 32]⟩ ++ bt (Lib.itoa (m : Int)) ++ ⟨#[13, 10]⟩ := by
    show _ = bt [50, 53, 48, 45, 112, 111, 117, 99, 104, 13, 10, 50, 53, 48, 45, 80, 73, 80, 69, 76, 73, 78, 73, 78, 71, 13, 10, 50, 53, 48, 45, 83, 73, 90, 69, 32] ++ bt (Lib.itoa (m : Int)) ++ bt [13, 10]
    rw [bt_app, bt_app]
    rfl
  have hz : (bt (Lib.itoa (m : Int))).size ≤ 21 := by show (Lib.itoa (m : Int)).toArray.size ≤ 21; simpa using hT0
  rw [hE]
  have hT2 : ∀ (e : Ending) (w' : World), (e = .returned (.string ⟨(Lib.itoa (m : Int)).toArray⟩) ∧ Below w.heap.size w w') → e = .returned (.string (bt (Lib.itoa (m : Int)))) ∧ Below w.heap.size w w' := fun _ _ h => h
  have hT3 := hT.mono hT2
  generalize bt (Lib.itoa (m : Int)) = T at *
  clear hT hT2 hE hT0
  have t1 : ¬ 9223372036854775807 < 36 + T.size := by omega
  have t2 : ¬ 9223372036854775807 < 36 + T.size + 2 := by omega
  have hz2 : (⟨#[50, 53, 48, 45, 112, 111, 117, 99, 104, 13, 10, 50, 53, 48, 45, 80, 73, 80, 69, 76, 73, 78, 73, 78, 71, 13, 10, 50, 53, 48, 45, 83, 73, 90, 69, 32]⟩ ++ T ++ ⟨#[13, 10]⟩ : ByteArray).size ≤ 1000 := by
    rw [ByteArray.size_append, ByteArray.size_append, show (⟨#[13, 10]⟩ : ByteArray).size = 2 from rfl, show (⟨#[50, 53, 48, 45, 112, 111, 117, 99, 104, 13, 10, 50, 53, 48, 45, 80, 73, 80, 69, 76, 73, 78, 73, 78, 71, 13, 10, 50, 53, 48, 45, 83, 73, 90, 69, 32]⟩ : ByteArray).size = 36 from rfl]
    omega
  have HT := Lib.hid hT3
  have HX := Lib.hid (And.intro hC (And.intro hG (And.intro h hz2)))
  obtain ⟨⟨c0, -⟩, -⟩ := h.cells
  clear hC hG h hT3 hz hz2 hm
  go_enter Tryz.func59, Tryz.ntmps59
  go_wp2_with fail
  refine HT.out.mono ?_
  rintro e w1 ⟨rfl, hb1⟩
  obtain ⟨hC, hG, h, hz2⟩ := HX.out
  have HH := Lib.hid (hello_any G w1 sb m fp kv sp tv bp g lg wt ov rest _ (hC.below hb1) hG (h.later hb1) hz2)
  have HB := Lib.hid hb1
  clear hC hG h hz2 hb1
  go_wp2_with fail
  refine HH.out.mono ?_
  rintro e w2 ⟨rfl, h2⟩
  have H2 := Lib.hid h2
  clear h2
  go_wp2
  go_ret
  exact ⟨rfl, H2.out.1, (Fr.of_below (X := Bk sb) HB.out).trans H2.out.2 (fun _ e => .inl e)⟩
/-- what data leaves -/
def DataP (w w' : World) (sb : Nat) (most : Int) (fp kv : Value) (g : Bool) (sp tv bp : Value) (lg wt ov : Bool) (l : List ByteArray) (e : Ending) : Prop :=
  Fr (Bk sb) w w' ∧ ((l = [] ∧ e = .returned (.string (bt (repW 503))) ∧ Raw w' sb most fp kv g sp tv bp lg wt ov) ∨
    (l ≠ [] ∧ e = .returned (.string (bt (repW 354))) ∧ ∃ b, w.heap.size ≤ b ∧ Raw w' sb most fp kv g sp tv (.pointer (some ⟨b, 0, none⟩)) false wt ov ∧ BQ w' b (.slice none 0 0) []))
set_option maxHeartbeats 1000000 in
set_option maxRecDepth 100000 in
theorem data_any (l : List ByteArray) (hq : Qs txL True w 9 tv l) (hC : Ctx G w) (hG : G ≤ sb) (h : Raw w sb most fp kv g sp tv bp lg wt ov) :
    Calls Tryz.prog 64 #[.pointer (some ⟨sb, 0, none⟩)] w fun e w' => DataP w w' sb most fp kv g sp tv bp lg wt ov l e := by
  obtain ⟨p, c, rfl, -⟩ := hq.form
  obtain ⟨⟨-, -, -, -, -, c5, c6, c7, -⟩, hf⟩ := h.cells
  by_cases h0 : l = []
  · subst h0
    have HR := Lib.hid (reply_at 503 (by decide) (by decide) hC)
    have H := Lib.hid h
    clear h hC hG hf hq
    go_enter Tryz.func64, Tryz.ntmps64
    go_wp2_with fail
    refine HR.out.mono ?_
    rintro e w1 ⟨rfl, hb1⟩
    go_wp2
    go_ret
    exact ⟨Fr.of_below hb1, .inl ⟨rfl, rfl, H.out.later hb1⟩⟩
  · have f6 := hf 6
    have f7 := hf 7
    have q1 : ((l.length : Int) == 0) = false := by
      rw [beq_eq_false_iff_ne]
      have : l.length ≠ 0 := by simpa using h0
      omega
    have q2 : (l.length == 0) = false := by
      rw [beq_eq_false_iff_ne]
      simpa using h0
    have hal : Below w.heap.size w (w.alloc (.cells #[.pointer none, .slice none 0 0] 69)) := (Below.refl _ _).alloc (Nat.le_refl _) _
    have h1 := h.later hal
    have hlt := h.lt
    obtain ⟨⟨-, -, -, -, -, d5, d6, d7, -⟩, hd⟩ := h1.cells
    have g6 := hd 6
    have g7 := hd 7
    have h2 := (h1.set6 (.pointer (some ⟨w.heap.size, 0, none⟩))).set7 false
    have f2 : Fr (Bk sb) w (((w.alloc (.cells #[.pointer none, .slice none 0 0] 69)).setCell ⟨sb, 6, none⟩ (.pointer (some ⟨w.heap.size, 0, none⟩))).setCell ⟨sb, 7, none⟩ (.bool false)) := ((Fr.of_below (X := Bk sb) hal).setCell (by rfl) _).setCell (by rfl) _
    have hbq : (((w.alloc (.cells #[.pointer none, .slice none 0 0] 69)).setCell ⟨sb, 6, none⟩ (.pointer (some ⟨w.heap.size, 0, none⟩))).setCell ⟨sb, 7, none⟩ (.bool false)).heap[w.heap.size]? = some (.cells #[.pointer none, .slice none 0 0] 69 (0, 0)) := by
      rw [Below.heap_setCell _ _ _ _ (by show w.heap.size ≠ sb; omega), Below.heap_setCell _ _ _ _ (by show w.heap.size ≠ sb; omega)]
      exact heap_alloc_new w _
    have HR := Lib.hid (reply_at 354 (by decide) (by decide) (hC.own hG f2))
    have HY := Lib.hid (And.intro f2 (And.intro h2 hbq))
    have H0 := Lib.hid h0
    clear h hC hG hf h1 hd h2 f2 hbq hal hlt h0 hq
    go_enter Tryz.func64, Tryz.ntmps64
    go_wp2_with fail
    refine HR.out.mono ?_
    rintro e w1 ⟨rfl, hb1⟩
    go_wp2
    go_ret
    obtain ⟨f2, h2, hbq⟩ := HY.out
    exact ⟨f2.then hb1, .inr ⟨H0.out, rfl, w.heap.size, Nat.le_refl _, h2.later hb1, BQ.new ((hb1.block _ (lt_of_block hbq)).trans hbq)⟩⟩
end Go.Proofs.YtjoipgekmnnlpaaGreatDoor
namespace Go.Proofs.YtjoipgekmnnlpaaGreatDoor
open Go.RowKit Go.Shelf Go.Lib Pk Sm

variable {G : Nat} {w : World} {sb : Nat} {most : Int} {fp kv sp tv bp : Value} {g lg wt ov : Bool}
def clampM (n : Int) : Nat := (min (max n 1) 65536).toNat
theorem clampM_le (n : Int) : 1 ≤ clampM n ∧ clampM n ≤ 65536 := by unfold clampM; omega
theorem clamp_any (n : Int) (w : World) : Calls Tryz.prog 30 #[.int .i64 n, .int .i64 1, .int .i64 65536] w fun e w' => e = .returned (.int .i64 (clampM n : Nat)) ∧ w' = w := by
  by_cases h1 : n < 1
  · have q1 : decide (n < 1) = true := decide_eq_true h1
    have e : ((clampM n : Nat) : Int) = 1 := by unfold clampM; omega
    rw [e]
    go_enter Tryz.func30, Tryz.ntmps30
    go_wp2
    go_ret
    exact ⟨rfl, rfl⟩
  · have q1 : decide (n < 1) = false := decide_eq_false h1
    by_cases h2 : 65536 < n
    · have q2 : decide (65536 < n) = true := decide_eq_true h2
      have e : ((clampM n : Nat) : Int) = 65536 := by unfold clampM; omega
      rw [e]
      go_enter Tryz.func30, Tryz.ntmps30
      go_wp2
      go_ret
      exact ⟨rfl, rfl⟩
    · have q2 : decide (65536 < n) = false := decide_eq_false h2
      have e : ((clampM n : Nat) : Int) = n := by unfold clampM; omega
      rw [e]
      go_enter Tryz.func30, Tryz.ntmps30
      go_wp2
      go_ret
      exact ⟨rfl, rfl⟩
theorem lnew_any (w : World) : Calls Tryz.prog 31 #[.int .i64 1000] w fun e w' => e = .returned (.pointer (some ⟨w.heap.size, 0, none⟩)) ∧ w' = w.alloc (.cells #[.int .i64 1000, .slice none 0 0] 82) := by
  go_enter Tryz.func31, Tryz.ntmps31
  go_wp2
  go_ret
  exact ⟨rfl, rfl⟩
set_option maxRecDepth 100000 in
theorem new_any (n : Int) (w : World) : Calls Tryz.prog 10 #[.int .i64 n] w fun e w' => e = .returned (.pointer (some ⟨w.heap.size + 1, 0, none⟩)) ∧ Below w.heap.size w w' ∧
    Raw w' (w.heap.size + 1) (clampM n : Nat) (.pointer (some ⟨w.heap.size, 0, none⟩)) (.slice none 0 0) false (.pointer none) (.slice none 0 0) (.pointer none) false false false ∧
    w'.heap[w.heap.size]? = some (.cells #[.int .i64 1000, .slice none 0 0] 82 (0, 0)) := by
  have HC := Lib.hid (clamp_any n w)
  have HL := Lib.hid (lnew_any w)
  go_enter Tryz.func10, Tryz.ntmps10
  go_wp2_with fail
  refine HC.out.mono ?_
  rintro e w1 ⟨rfl, rfl⟩
  go_wp2_with fail
  refine HL.out.mono ?_
  rintro e w2 ⟨rfl, rfl⟩
  go_wp2
  go_ret
  refine ⟨by simp, ?_, ?_, ?_⟩
  · exact ((Below.refl _ _).alloc (Nat.le_refl _) _).alloc (by simp) _
  · unfold Raw
    have := heap_alloc_new (w1.alloc (.cells #[.int .i64 1000, .slice none 0 0] 82)) (.cells #[.int .i64 (clampM n : Nat), .pointer (some ⟨w1.heap.size, 0, none⟩), .slice none 0 0, .bool false, .pointer none, .slice none 0 0, .pointer none, .bool false, .bool false, .bool false] 62)
    simpa using this
  · rw [Below.heap_alloc _ _ _ (by simp)]
    exact heap_alloc_new w1 _
theorem greet_any (p : Value) (hC : Ctx G w) : Calls Tryz.prog 12 #[p] w fun e w' => e = .returned (.string (bt (repW 220))) ∧ Below w.heap.size w w' := by
  have HR := Lib.hid (reply_at 220 (by decide) (by decide) hC)
  clear hC
  go_enter Tryz.func12, Tryz.ntmps12
  go_wp2_with fail
  refine HR.out.mono ?_
  rintro e w1 ⟨rfl, hb1⟩
  go_wp2
  go_ret
  exact ⟨rfl, hb1⟩
theorem over_any (h : Raw w sb most fp kv g sp tv bp lg wt ov) : Calls Tryz.prog 16 #[.pointer (some ⟨sb, 0, none⟩)] w fun e w' => e = .returned (.bool ov) ∧ w' = w := by
  have c9 := h.cells.1.2.2.2.2.2.2.2.2.2
  clear h
  go_enter Tryz.func16, Tryz.ntmps16
  go_wp2
  go_ret
  exact ⟨rfl, rfl⟩
end Go.Proofs.YtjoipgekmnnlpaaGreatDoor
namespace Go.Proofs.YtjoipgekmnnlpaaGreatDoor
open Go.RowKit Go.Shelf Go.Lib Pk Sm

variable {G : Nat} {w : World} {sb : Nat} {most : Int} {fp kv sp tv bp : Value} {g lg wt ov : Bool}
theorem answer_no (e0 : Int) (h : Raw w sb most fp kv g sp tv bp lg false ov) : Calls Tryz.prog 21 #[.pointer (some ⟨sb, 0, none⟩), .int .i64 e0] w fun e w' => e = .returned (.string ⟨#[]⟩) ∧ w' = w := by
  have c8 := h.cells.1.2.2.2.2.2.2.2.2.1
  clear h
  go_enter Tryz.func21, Tryz.ntmps21
  go_wp2
  go_ret
  exact ⟨rfl, rfl⟩
structure AnsX (G : Nat) (w w1 : World) (sb : Nat) : Prop where
  one : Ctx G w
  two : G ≤ sb
  thr : Fr (Bk sb) w w1
theorem answerC_else (e : Int) (h0 : e ≠ 0) (h1 : e ≠ 16) (h2 : e ≠ 3) (h3 : e ≠ 13) (h4 : e ≠ 14) (h5 : e ≠ 22) : answerC e = 554 := by
  unfold answerC
  split <;> first | rfl | (exfalso; omega)
set_option maxHeartbeats 4000000 in
set_option maxRecDepth 100000 in
theorem answer_yes (e0 : Int) (hC : Ctx G w) (hG : G ≤ sb) (h : Raw w sb most fp kv g sp tv bp lg true ov) :
    Calls Tryz.prog 21 #[.pointer (some ⟨sb, 0, none⟩), .int .i64 e0] w fun e w' => e = .returned (.string (bt (repW (answerC e0)))) ∧ Raw w' sb most fp kv g (.pointer none) (.slice none 0 0) (.pointer none) lg false ov ∧ Fr (Bk sb) w w' := by
  obtain ⟨⟨-, -, -, -, -, -, c6, -, c8, -⟩, hf⟩ := h.cells
  have f6 := hf 6
  have f8 := hf 8
  have h1 := (h.set8 false).set6 (.pointer none)
  have hF : Fr (Bk sb) w ((w.setCell ⟨sb, 8, none⟩ (.bool false)).setCell ⟨sb, 6, none⟩ (.pointer none)) := ((Fr.refl (Bk sb) w).setCell (by rfl) _).setCell (by rfl) _
  have HZ := Lib.hid (reset_any _ _ _ _ _ _ _ _ _ _ _ _ h1)
  have HX := Lib.hid (AnsX.mk hC hG hF)
  clear hC hG h hf h1 hF
  by_cases h0 : e0 = 0
  · subst h0
    go_enter Tryz.func21, Tryz.ntmps21
    go_wp2_with fail
    refine HZ.out.mono ?_
    rintro e w1 ⟨rfl, h2, f2⟩
    have HR := Lib.hid (reply_at 250 (by decide) (by decide) (HX.out.one.own HX.out.two (HX.out.thr.trans f2 (fun _ e => .inl e))))
    have HY := Lib.hid (And.intro (HX.out.thr.trans f2 (fun _ e => .inl e)) h2)
    clear f2 h2
    go_wp2_with fail
    refine HR.out.mono ?_
    rintro e w2 ⟨rfl, hb2⟩
    go_wp2
    go_ret
    exact ⟨rfl, HY.out.2.later hb2, HY.out.1.then hb2⟩
  by_cases h1 : e0 = 16
  · subst h1
    clear h0
    go_enter Tryz.func21, Tryz.ntmps21
    go_wp2_with fail
    refine HZ.out.mono ?_
    rintro e w1 ⟨rfl, h2, f2⟩
    have HR := Lib.hid (reply_at 552 (by decide) (by decide) (HX.out.one.own HX.out.two (HX.out.thr.trans f2 (fun _ e => .inl e))))
    have HY := Lib.hid (And.intro (HX.out.thr.trans f2 (fun _ e => .inl e)) h2)
    clear f2 h2
    go_wp2_with fail
    refine HR.out.mono ?_
    rintro e w2 ⟨rfl, hb2⟩
    go_wp2
    go_ret
    exact ⟨rfl, HY.out.2.later hb2, HY.out.1.then hb2⟩
  by_cases h2 : e0 = 3
  · subst h2
    clear h0 h1
    go_enter Tryz.func21, Tryz.ntmps21
    go_wp2_with fail
    refine HZ.out.mono ?_
    rintro e w1 ⟨rfl, h2, f2⟩
    have HR := Lib.hid (reply_at 452 (by decide) (by decide) (HX.out.one.own HX.out.two (HX.out.thr.trans f2 (fun _ e => .inl e))))
    have HY := Lib.hid (And.intro (HX.out.thr.trans f2 (fun _ e => .inl e)) h2)
    clear f2 h2
    go_wp2_with fail
    refine HR.out.mono ?_
    rintro e w2 ⟨rfl, hb2⟩
    go_wp2
    go_ret
    exact ⟨rfl, HY.out.2.later hb2, HY.out.1.then hb2⟩
  by_cases h3 : e0 = 13
  · subst h3
    clear h0 h1 h2
    go_enter Tryz.func21, Tryz.ntmps21
    go_wp2_with fail
    refine HZ.out.mono ?_
    rintro e w1 ⟨rfl, h2, f2⟩
    have HR := Lib.hid (reply_at 451 (by decide) (by decide) (HX.out.one.own HX.out.two (HX.out.thr.trans f2 (fun _ e => .inl e))))
    have HY := Lib.hid (And.intro (HX.out.thr.trans f2 (fun _ e => .inl e)) h2)
    clear f2 h2
    go_wp2_with fail
    refine HR.out.mono ?_
    rintro e w2 ⟨rfl, hb2⟩
    go_wp2
    go_ret
    exact ⟨rfl, HY.out.2.later hb2, HY.out.1.then hb2⟩
  by_cases h4 : e0 = 14
  · subst h4
    clear h0 h1 h2 h3
    go_enter Tryz.func21, Tryz.ntmps21
    go_wp2_with fail
    refine HZ.out.mono ?_
    rintro e w1 ⟨rfl, h2, f2⟩
    have HR := Lib.hid (reply_at 451 (by decide) (by decide) (HX.out.one.own HX.out.two (HX.out.thr.trans f2 (fun _ e => .inl e))))
    have HY := Lib.hid (And.intro (HX.out.thr.trans f2 (fun _ e => .inl e)) h2)
    clear f2 h2
    go_wp2_with fail
    refine HR.out.mono ?_
    rintro e w2 ⟨rfl, hb2⟩
    go_wp2
    go_ret
    exact ⟨rfl, HY.out.2.later hb2, HY.out.1.then hb2⟩
  by_cases h5 : e0 = 22
  · subst h5
    clear h0 h1 h2 h3 h4
    go_enter Tryz.func21, Tryz.ntmps21
    go_wp2_with fail
    refine HZ.out.mono ?_
    rintro e w1 ⟨rfl, h2, f2⟩
    have HR := Lib.hid (reply_at 451 (by decide) (by decide) (HX.out.one.own HX.out.two (HX.out.thr.trans f2 (fun _ e => .inl e))))
    have HY := Lib.hid (And.intro (HX.out.thr.trans f2 (fun _ e => .inl e)) h2)
    clear f2 h2
    go_wp2_with fail
    refine HR.out.mono ?_
    rintro e w2 ⟨rfl, hb2⟩
    go_wp2
    go_ret
    exact ⟨rfl, HY.out.2.later hb2, HY.out.1.then hb2⟩
  have HE := Lib.hid (show answerC e0 = 554 ∧ 0 ≤ 0 from ⟨answerC_else e0 h0 h1 h2 h3 h4 h5, Nat.le_refl _⟩)
  have q0 : (e0 == 0) = false := beq_eq_false_iff_ne.2 h0
  have q1 : (e0 == 16) = false := beq_eq_false_iff_ne.2 h1
  have q2 : (e0 == 3) = false := beq_eq_false_iff_ne.2 h2
  have q3 : (e0 == 13) = false := beq_eq_false_iff_ne.2 h3
  have q4 : (e0 == 14) = false := beq_eq_false_iff_ne.2 h4
  have q5 : (e0 == 22) = false := beq_eq_false_iff_ne.2 h5
  clear h0 h1 h2 h3 h4 h5
  go_enter Tryz.func21, Tryz.ntmps21
  go_wp2_with fail
  refine HZ.out.mono ?_
  rintro e w1 ⟨rfl, h2, f2⟩
  have HR := Lib.hid (reply_at 554 (by decide) (by decide) (HX.out.one.own HX.out.two (HX.out.thr.trans f2 (fun _ e => .inl e))))
  have HY := Lib.hid (And.intro (HX.out.thr.trans f2 (fun _ e => .inl e)) h2)
  clear f2 h2
  go_wp2_with fail
  refine HR.out.mono ?_
  rintro e w2 ⟨rfl, hb2⟩
  go_wp2
  go_ret
  exact ⟨(by rw [HE.out.1]; rfl), HY.out.2.later hb2, HY.out.1.then hb2⟩
end Go.Proofs.YtjoipgekmnnlpaaGreatDoor
namespace Go.Proofs.YtjoipgekmnnlpaaGreatDoor
open Go.RowKit Go.Shelf Go.Lib Pk Sm

variable {G : Nat} {w : World} {sb : Nat} {most : Int} {fp kv sp tv bp : Value} {g lg wt ov : Bool}
theorem bare_any (f : Nat) (w : World) : Calls Tryz.prog 63 #[.func (.func f) #[] #[]] w fun e w' => e = .returned (.func (.func 96) #[] #[.pointer (some ⟨w.heap.size, 0, none⟩)]) ∧ w' = w.alloc (.cells #[.func (.func f) #[] #[]] 92) := by
  go_enter Tryz.func63, Tryz.ntmps63
  go_wp2
  go_ret
  exact ⟨rfl, rfl⟩
set_option maxRecDepth 100000 in
theorem bare1_no (p bx : Addr) (rest : ByteArray) (h0 : rest.size ≠ 0) (hC : Ctx G w) :
    Calls Tryz.prog 96 #[.pointer (some p), .string rest, .pointer (some bx)] w fun e w' => e = .returned (.string (bt (repW 501))) ∧ Below w.heap.size w w' := by
  have HR := Lib.hid (reply_at 501 (by decide) (by decide) hC)
  have q := str_neq (Nat.pos_of_ne_zero h0)
  clear hC h0
  go_enter Tryz.func96, Tryz.ntmps96
  go_wp2_with fail
  refine HR.out.mono ?_
  rintro e w1 ⟨rfl, hb1⟩
  go_wp2
  go_ret
  exact ⟨rfl, hb1⟩
set_option maxRecDepth 100000 in
theorem bare1_data (p : Addr) (b : Nat) (rest : ByteArray) (h0 : rest.size = 0) (hb : w.cell? ⟨b, 0, none⟩ = some (.func (.func 64) #[] #[])) (R : Value → World → Prop)
    (hD : Calls Tryz.prog 64 #[.pointer (some p)] w fun e w' => ∃ v, e = .returned v ∧ R v w') :
    Calls Tryz.prog 96 #[.pointer (some p), .string rest, .pointer (some ⟨b, 0, none⟩)] w fun e w' => ∃ v, e = .returned v ∧ R v w' := by
  obtain rfl : rest = ⟨#[]⟩ := by
    rw [← bt_back rest, List.eq_nil_of_length_eq_zero (show rest.data.toList.length = 0 from h0)]; rfl
  have H := Lib.hid hD
  clear hD h0
  go_enter Tryz.func96, Tryz.ntmps96
  go_wp2_with fail
  refine H.out.mono ?_
  rintro e w1 ⟨v, rfl, hP⟩
  have HP := Lib.hid hP
  clear hP
  go_wp2
  go_ret
  exact ⟨v, rfl, HP.out⟩
set_option maxRecDepth 100000 in
theorem bare1_rset (p : Addr) (b : Nat) (rest : ByteArray) (h0 : rest.size = 0) (hb : w.cell? ⟨b, 0, none⟩ = some (.func (.func 65) #[] #[])) (R : Value → World → Prop)
    (hD : Calls Tryz.prog 65 #[.pointer (some p)] w fun e w' => ∃ v, e = .returned v ∧ R v w') :
    Calls Tryz.prog 96 #[.pointer (some p), .string rest, .pointer (some ⟨b, 0, none⟩)] w fun e w' => ∃ v, e = .returned v ∧ R v w' := by
  obtain rfl : rest = ⟨#[]⟩ := by
    rw [← bt_back rest, List.eq_nil_of_length_eq_zero (show rest.data.toList.length = 0 from h0)]; rfl
  have H := Lib.hid hD
  clear hD h0
  go_enter Tryz.func96, Tryz.ntmps96
  go_wp2_with fail
  refine H.out.mono ?_
  rintro e w1 ⟨v, rfl, hP⟩
  have HP := Lib.hid hP
  clear hP
  go_wp2
  go_ret
  exact ⟨v, rfl, HP.out⟩
set_option maxRecDepth 100000 in
theorem bare1_quit (p : Addr) (b : Nat) (rest : ByteArray) (h0 : rest.size = 0) (hb : w.cell? ⟨b, 0, none⟩ = some (.func (.func 66) #[] #[])) (R : Value → World → Prop)
    (hD : Calls Tryz.prog 66 #[.pointer (some p)] w fun e w' => ∃ v, e = .returned v ∧ R v w') :
    Calls Tryz.prog 96 #[.pointer (some p), .string rest, .pointer (some ⟨b, 0, none⟩)] w fun e w' => ∃ v, e = .returned v ∧ R v w' := by
  obtain rfl : rest = ⟨#[]⟩ := by
    rw [← bt_back rest, List.eq_nil_of_length_eq_zero (show rest.data.toList.length = 0 from h0)]; rfl
  have H := Lib.hid hD
  clear hD h0
  go_enter Tryz.func96, Tryz.ntmps96
  go_wp2_with fail
  refine H.out.mono ?_
  rintro e w1 ⟨v, rfl, hP⟩
  have HP := Lib.hid hP
  clear hP
  go_wp2
  go_ret
  exact ⟨v, rfl, HP.out⟩
theorem noop_any (p : Value) (rest : ByteArray) (hC : Ctx G w) : Calls Tryz.prog 67 #[p, .string rest] w fun e w' => e = .returned (.string (bt (repW 250))) ∧ Below w.heap.size w w' := by
  have HR := Lib.hid (reply_at 250 (by decide) (by decide) hC)
  clear hC
  go_enter Tryz.func67, Tryz.ntmps67
  go_wp2_with fail
  refine HR.out.mono ?_
  rintro e w1 ⟨rfl, hb1⟩
  go_wp2
  go_ret
  exact ⟨rfl, hb1⟩
theorem vrfy_any (p : Value) (rest : ByteArray) (hC : Ctx G w) : Calls Tryz.prog 68 #[p, .string rest] w fun e w' => e = .returned (.string (bt (repW 252))) ∧ Below w.heap.size w w' := by
  have HR := Lib.hid (reply_at 252 (by decide) (by decide) hC)
  clear hC
  go_enter Tryz.func68, Tryz.ntmps68
  go_wp2_with fail
  refine HR.out.mono ?_
  rintro e w1 ⟨rfl, hb1⟩
  go_wp2
  go_ret
  exact ⟨rfl, hb1⟩
end Go.Proofs.YtjoipgekmnnlpaaGreatDoor
