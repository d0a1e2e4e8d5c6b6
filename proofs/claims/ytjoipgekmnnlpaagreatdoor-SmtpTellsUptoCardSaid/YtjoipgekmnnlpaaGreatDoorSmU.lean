/- Walks: a mail session: command. -/
import Derived.Test.YtjoipgekmnnlpaaGreatDoorSmV
namespace Go.Proofs.YtjoipgekmnnlpaaGreatDoor
open Go.RowKit Go.Shelf Go.Lib Pk Sm

variable {G : Nat} {w : World} {sb : Nat} {most : Int} {fp kv sp tv bp : Value} {g lg wt ov : Bool}
set_option maxRecDepth 100000 in
theorem command_no (p : Value) (l : ByteArray) (hl : l.size ≤ 100000) (hn : l.data.toList.getLast? ≠ some 10) (hC : Ctx G w) :
    Calls Tryz.prog 38 #[p, .string l] w fun e w' => e = .returned (.string (bt (repW 500))) ∧ Below w.heap.size w w' := by
  have hS := fun W => Tryz.strings_HasSuffix l ⟨#[10]⟩ W (by omega)
  have e2 : Lib.hasSuffix l.data.toList (⟨#[10]⟩ : ByteArray).data.toList = false := (suf_lastN _ _).trans (decide_eq_false hn)
  rw [e2] at hS
  have HS := Lib.hid hS
  have HR := Lib.hid (reply_at 500 (by decide) (by decide) hC)
  clear hS e2 hn hC
  go_enter Tryz.func38, Tryz.ntmps38
  go_wp2_with fail
  refine (HS.out _).mono ?_
  rintro e w1 ⟨rfl, rfl⟩
  go_wp2_with fail
  refine HR.out.mono ?_
  rintro e w1 ⟨rfl, hb1⟩
  go_wp2
  go_ret
  exact ⟨rfl, hb1⟩
/-- a map in the making, and the boxes of what it holds -/
structure MC (w W : World) (r : Nat) (kvs : List (ByteArray × Value)) (bx : List (Nat × Nat)) : Prop where
  map : mapIs W r kvs
  bel : Below w.heap.size w W
  hr : w.heap.size ≤ r
  box : ∀ p ∈ bx, p.1 ≠ r ∧ W.heap[p.1]? = some (.cells #[.func (.func p.2) #[] #[]] 92 (0, 0))
theorem MC.step {W W' : World} {r : Nat} {kvs kvs' : List (ByteArray × Value)} {bx : List (Nat × Nat)} (h : MC w W r kvs bx) (hm : mapIs W' r kvs') (hg : W.grownBy W' (some r)) : MC w W' r kvs' bx :=
  ⟨hm, Below_map h.bel h.hr hg h.bel.size, h.hr, fun p hp => ⟨(h.box p hp).1, (hg.block p.1 (lt_of_block (h.box p hp).2) (fun e => (h.box p hp).1 (by injection e))).trans (h.box p hp).2⟩⟩
theorem MC.start {W : World} (hb : Below w.heap.size w W) : MC w (W.alloc (.map #[] 0)) W.heap.size [] [] :=
  ⟨mapIs_new W, hb.alloc hb.size _, hb.size, fun _ h => by cases h⟩
theorem MC.bare {W W' : World} {r F : Nat} {kvs : List (ByteArray × Value)} {bx : List (Nat × Nat)} (h : MC w W r kvs bx) (hw : W' = W.alloc (.cells #[.func (.func F) #[] #[]] 92)) : MC w W' r kvs (bx ++ [(W.heap.size, F)]) := by
  subst hw
  refine ⟨mapIs_alloc h.map _, h.bel.alloc h.bel.size _, h.hr, fun p hp => ?_⟩
  rcases List.mem_append.1 hp with hp | hp
  · exact ⟨(h.box p hp).1, (heap_alloc_old W _ (lt_of_block (h.box p hp).2)).trans (h.box p hp).2⟩
  · rw [List.mem_singleton.1 hp]
    exact ⟨fun e => by have := mapIs_lt h.map; have e : W.heap.size = r := e; omega, heap_alloc_new W _⟩
theorem MC.later {W W' : World} {r : Nat} {kvs : List (ByteArray × Value)} {bx : List (Nat × Nat)} (h : MC w W r kvs bx) (hb : Below W.heap.size W W') : MC w W' r kvs bx :=
  ⟨mapIs_below h.map hb (mapIs_lt h.map), h.bel.trans (hb.mono h.bel.size), h.hr, fun p hp => ⟨(h.box p hp).1, (hb.block p.1 (lt_of_block (h.box p hp).2)).trans (h.box p hp).2⟩⟩
theorem MC.look {W : World} {r : Nat} {kvs : List (ByteArray × Value)} {bx : List (Nat × Nat)} (h : MC w W r kvs bx) (k : ByteArray) (v : Value) (hv : mapGet k .nilFunc kvs = v) : (Instr.lookup 93 (.map (some r)) (.string k) false).run Tryz.prog W = .ok v W := by
  rw [← hv]
  exact run_lookup_map h.map Tryz.underlying93 Tryz.underlying9 k .nilFunc (by kernel_rfl)
theorem MC.cell {W : World} {r : Nat} {kvs : List (ByteArray × Value)} {bx : List (Nat × Nat)} (h : MC w W r kvs bx) (i : Nat) (b F : Nat) (hi : bx[i]? = some (b, F)) : W.cell? ⟨b, 0, none⟩ = some (.func (.func F) #[] #[]) :=
  (Lib.cell_of_heap (h.box (b, F) (List.mem_of_getElem? hi)).2 _).trans rfl
/-- the nine verbs -/
theorem verbs (v : List UInt8) : (v = [69, 72, 76, 79] ∧ verbW v = 0) ∨ (v = [72, 69, 76, 79] ∧ verbW v = 1) ∨ (v = [77, 65, 73, 76] ∧ verbW v = 2) ∨ (v = [82, 67, 80, 84] ∧ verbW v = 3) ∨ (v = [68, 65, 84, 65] ∧ verbW v = 4) ∨
    (v = [82, 83, 69, 84] ∧ verbW v = 5) ∨ (v = [81, 85, 73, 84] ∧ verbW v = 6) ∨ (v = [78, 79, 79, 80] ∧ verbW v = 7) ∨ (v = [86, 82, 70, 89] ∧ verbW v = 8) ∨
    ((v ≠ [69, 72, 76, 79] ∧ v ≠ [72, 69, 76, 79] ∧ v ≠ [77, 65, 73, 76] ∧ v ≠ [82, 67, 80, 84] ∧ v ≠ [68, 65, 84, 65] ∧ v ≠ [82, 83, 69, 84] ∧ v ≠ [81, 85, 73, 84] ∧ v ≠ [78, 79, 79, 80] ∧ v ≠ [86, 82, 70, 89]) ∧ verbW v = 9) := by
  unfold verbW
  by_cases h0 : v = [69, 72, 76, 79]
  · exact .inl ⟨h0, if_pos h0⟩
  right
  by_cases h1 : v = [72, 69, 76, 79]
  · exact .inl ⟨h1, by rw [if_neg h0, if_pos h1]⟩
  right
  by_cases h2 : v = [77, 65, 73, 76]
  · exact .inl ⟨h2, by rw [if_neg h0, if_neg h1, if_pos h2]⟩
  right
  by_cases h3 : v = [82, 67, 80, 84]
  · exact .inl ⟨h3, by rw [if_neg h0, if_neg h1, if_neg h2, if_pos h3]⟩
  right
  by_cases h4 : v = [68, 65, 84, 65]
  · exact .inl ⟨h4, by rw [if_neg h0, if_neg h1, if_neg h2, if_neg h3, if_pos h4]⟩
  right
  by_cases h5 : v = [82, 83, 69, 84]
  · exact .inl ⟨h5, by rw [if_neg h0, if_neg h1, if_neg h2, if_neg h3, if_neg h4, if_pos h5]⟩
  right
  by_cases h6 : v = [81, 85, 73, 84]
  · exact .inl ⟨h6, by rw [if_neg h0, if_neg h1, if_neg h2, if_neg h3, if_neg h4, if_neg h5, if_pos h6]⟩
  right
  by_cases h7 : v = [78, 79, 79, 80]
  · exact .inl ⟨h7, by rw [if_neg h0, if_neg h1, if_neg h2, if_neg h3, if_neg h4, if_neg h5, if_neg h6, if_pos h7]⟩
  right
  by_cases h8 : v = [86, 82, 70, 89]
  · exact .inl ⟨h8, by rw [if_neg h0, if_neg h1, if_neg h2, if_neg h3, if_neg h4, if_neg h5, if_neg h6, if_neg h7, if_pos h8]⟩
  right
  exact ⟨⟨h0, h1, h2, h3, h4, h5, h6, h7, h8⟩, by rw [if_neg h0, if_neg h1, if_neg h2, if_neg h3, if_neg h4, if_neg h5, if_neg h6, if_neg h7, if_neg h8]⟩
/-- the map of the commands -/
def kvsL (b1 b2 b3 : Nat) : List (ByteArray × Value) :=
  [(⟨#[69, 72, 76, 79]⟩, .func (.func 59) #[] #[]), (⟨#[72, 69, 76, 79]⟩, .func (.func 60) #[] #[]), (⟨#[77, 65, 73, 76]⟩, .func (.func 61) #[] #[]), (⟨#[82, 67, 80, 84]⟩, .func (.func 62) #[] #[]),
   (⟨#[68, 65, 84, 65]⟩, .func (.func 96) #[] #[.pointer (some ⟨b1, 0, none⟩)]), (⟨#[82, 83, 69, 84]⟩, .func (.func 96) #[] #[.pointer (some ⟨b2, 0, none⟩)]), (⟨#[81, 85, 73, 84]⟩, .func (.func 96) #[] #[.pointer (some ⟨b3, 0, none⟩)]),
   (⟨#[78, 79, 79, 80]⟩, .func (.func 67) #[] #[]), (⟨#[86, 82, 70, 89]⟩, .func (.func 68) #[] #[])]
def boxL (b1 b2 b3 : Nat) : List (Nat × Nat) := [(b1, 64), (b2, 65), (b3, 66)]
theorem key_lit {p K : ByteArray} {lit : List UInt8} (hK : K = ⟨(Lib.mapD upR p.data.toList).toArray⟩) (ha : Asc lit) (h : p.data.toList.map up = lit) : K = ⟨lit.toArray⟩ := by
  rw [hK, (map_iff _ _ ha).2 h]
theorem key_none {p K : ByteArray} {lit : List UInt8} (hK : K = ⟨(Lib.mapD upR p.data.toList).toArray⟩) (ha : Asc lit) (h : p.data.toList.map up ≠ lit) : (K == ⟨lit.toArray⟩) = false := by
  cases hx : (K == ⟨lit.toArray⟩) with
  | false => rfl
  | true =>
    exfalso
    have e : K.data = lit.toArray := eq_of_beq (show (K.data == lit.toArray) = true from hx)
    rw [hK] at e
    have e : Lib.mapD upR p.data.toList = lit := by simpa using e
    exact h ((map_iff _ _ ha).1 e)
theorem look_none {K : ByteArray} (b1 b2 b3 : Nat) (h0 : (K == ⟨#[69, 72, 76, 79]⟩) = false) (h1 : (K == ⟨#[72, 69, 76, 79]⟩) = false) (h2 : (K == ⟨#[77, 65, 73, 76]⟩) = false) (h3 : (K == ⟨#[82, 67, 80, 84]⟩) = false) (h4 : (K == ⟨#[68, 65, 84, 65]⟩) = false)
    (h5 : (K == ⟨#[82, 83, 69, 84]⟩) = false) (h6 : (K == ⟨#[81, 85, 73, 84]⟩) = false) (h7 : (K == ⟨#[78, 79, 79, 80]⟩) = false) (h8 : (K == ⟨#[86, 82, 70, 89]⟩) = false) : mapGet K .nilFunc (kvsL b1 b2 b3) = .nilFunc := by
  unfold kvsL
  simp only [mapGet, h0, h1, h2, h3, h4, h5, h6, h7, h8]
  rfl
theorem fnNil (w : World) : (binOp .eql 90 .nilFunc .nilFunc).run Tryz.prog w = .ok (.bool true) w := by kernel_rfl
theorem fnF (f : Nat) (w : World) : (binOp .eql 90 (.func (.func f) #[] #[]) .nilFunc).run Tryz.prog w = .ok (.bool false) w := by kernel_rfl
theorem fnC (f b : Nat) (w : World) : (binOp .eql 90 (.func (.func f) #[] #[.pointer (some ⟨b, 0, none⟩)]) .nilFunc).run Tryz.prog w = .ok (.bool false) w := by kernel_rfl
/-- what the walk of a command has -/
structure CmX (G : Nat) (w : World) (sb most : Nat) (s : Whl) (R : Roles) : Prop where
  ses : SesAt G w sb most s R
  max : most ≤ 65536
  rcp : s.st.to.length ≤ 1000
set_option maxHeartbeats 4000000 in
set_option maxRecDepth 100000 in
theorem command_yes {most : Nat} {s : Whl} {R : Roles} (h : SesAt G w sb most s R) (hm : most ≤ 65536) (ht : s.st.to.length ≤ 1000) (l : ByteArray) (hl : l.size ≤ 100000) (hn : l.data.toList.getLast? = some 10) :
    Calls Tryz.prog 38 #[.pointer (some ⟨sb, 0, none⟩), .string l] w (StpT G w sb most R ⟨(commandW most s.st l.data.toList).1, s.rest, s.kept⟩ (commandW most s.st l.data.toList).2) := by
  have hS := fun W => Tryz.strings_HasSuffix l ⟨#[10]⟩ W (by omega)
  have e2 : Lib.hasSuffix l.data.toList (⟨#[10]⟩ : ByteArray).data.toList = true := (suf_lastN _ _).trans (decide_eq_true hn)
  rw [e2] at hS
  have HS := Lib.hid hS
  have HB := Lib.hid (fun W => bareS_any l W (by omega))
  have hbz : (bt (bareS l.data.toList)).size ≤ 100000 := by have := bareS_le l.data.toList; have : (bt (bareS l.data.toList)).size = (bareS l.data.toList).length := (by show (List.toArray _).size = _; simp); have : l.data.toList.length = l.size := rfl; omega
  have hw := fun W => wordS_any (bt (bareS l.data.toList)) W (by omega)
  rw [bt_data] at hw
  unfold WordIs at hw
  have e3 : commandW most s.st l.data.toList = doW most (verbW ((wordW (bareS l.data.toList)).1.map up)) s.st (wordW (bareS l.data.toList)).2 := by unfold commandW; rw [if_neg (fun e => e hn)]
  rw [e3]
  have hwl : (wordW (bareS l.data.toList)).1.length ≤ 100000 ∧ (wordW (bareS l.data.toList)).2.length ≤ 100000 := by
    have hz : (bareS l.data.toList).length ≤ 100000 := by have := bareS_le l.data.toList; have : l.data.toList.length = l.size := rfl; omega
    by_cases hx : bareS l.data.toList = []
    · rw [hx]; exact ⟨by decide, by decide⟩
    · have := wordW_len _ hx
      omega
  clear e2 e3 hS hn hbz
  generalize bt (bareS l.data.toList) = B at *
  generalize (wordW (bareS l.data.toList)).1 = p1 at *
  generalize (wordW (bareS l.data.toList)).2 = r1 at *
  obtain ⟨P1, hP1, hP2, hP3⟩ := bt_ex p1
  obtain ⟨R1, hR1, hR2, hR3⟩ := bt_ex r1
  rw [← hP1, ← hR1] at hw
  have HW := Lib.hid hw
  subst hP2
  subst hR2
  obtain ⟨K, hK⟩ : ∃ K : ByteArray, K = ⟨(Lib.mapD upR P1.data.toList).toArray⟩ := ⟨_, rfl⟩
  have hG := fun W hT => great_any P1 W (by omega) hT
  rw [← hK] at hG
  have HG := Lib.hid hG
  have hRz : R1.size ≤ 100000 := by omega
  have HZ := Lib.hid hRz
  have HH := Lib.hid (CmX.mk h hm ht)
  have hmm := @run_makeMap Tryz.prog
  clear hw h hm ht hP1 hP3 hR1 hR3 hwl hG hRz
  rcases verbs (P1.data.toList.map up) with ⟨hv, hn⟩ | ⟨hv, hn⟩ | ⟨hv, hn⟩ | ⟨hv, hn⟩ | ⟨hv, hn⟩ | ⟨hv, hn⟩ | ⟨hv, hn⟩ | ⟨hv, hn⟩ | ⟨hv, hn⟩ | ⟨hv, hn⟩ <;> rw [hn] <;> clear hn
  · obtain rfl := key_lit hK (by unfold Asc; decide) hv
    clear hv hK
    go_enter Tryz.func38, Tryz.ntmps38
    go_wp2_with fail
    refine (HS.out _).mono ?_
    rintro e w1 ⟨rfl, rfl⟩
    go_wp2_with fail
    refine (HB.out _).mono ?_
    rintro e w1 ⟨rfl, rfl⟩
    go_wp2_with fail
    refine (HW.out _).mono ?_
    rintro e w2 ⟨rfl, hb2⟩
    have hp := MC.start hb2
    go_wp2_with (first
      | (refine wpList_insert_map _ rfl (.tmp 18) _ _ _ rfl _ _ Tryz.underlying93 Tryz.underlying9 _ _ rfl hp.map _ rfl (by kernel_rfl) ?_; intro w4 hm4 hg4; have hp := hp.step hm4 hg4; clear hm4 hg4)
      | (go_at_call 63; ((with_reducible refine (bare_any _ _).mono ?_); rintro e w5 ⟨rfl, hw5⟩; have hp := hp.bare hw5; clear hw5))
      | fail)
    obtain ⟨b1, b2, b3, hP⟩ : ∃ b1 b2 b3, MC w1 w4 w2.heap.size (kvsL b1 b2 b3) (boxL b1 b2 b3) := ⟨_, _, _, hp⟩
    clear hp
    refine (HG.out _ (HH.out.ses.ctx.below hP.bel).u8).mono ?_
    rintro e w6 ⟨rfl, hb6⟩
    have hP := hP.later hb6
    have hl := hP.look ⟨#[69, 72, 76, 79]⟩ (.func (.func 59) #[] #[]) rfl
    have hq := fnF 59 w6
    have HP := Lib.hid hP
    clear hP hb6
    go_wp2_with fail
    refine (ses_ehlo (HH.out.ses.below HP.out.bel) HH.out.max R1).mono ?_
    rintro e w7 ⟨rfl, hst⟩
    have HT := Lib.hid hst
    clear hst
    go_wp2
    go_ret
    exact ⟨rfl, Stp.first HH.out.ses HP.out.bel (fun _ => HT.out)⟩
  · obtain rfl := key_lit hK (by unfold Asc; decide) hv
    clear hv hK
    go_enter Tryz.func38, Tryz.ntmps38
    go_wp2_with fail
    refine (HS.out _).mono ?_
    rintro e w1 ⟨rfl, rfl⟩
    go_wp2_with fail
    refine (HB.out _).mono ?_
    rintro e w1 ⟨rfl, rfl⟩
    go_wp2_with fail
    refine (HW.out _).mono ?_
    rintro e w2 ⟨rfl, hb2⟩
    have hp := MC.start hb2
    go_wp2_with (first
      | (refine wpList_insert_map _ rfl (.tmp 18) _ _ _ rfl _ _ Tryz.underlying93 Tryz.underlying9 _ _ rfl hp.map _ rfl (by kernel_rfl) ?_; intro w4 hm4 hg4; have hp := hp.step hm4 hg4; clear hm4 hg4)
      | (go_at_call 63; ((with_reducible refine (bare_any _ _).mono ?_); rintro e w5 ⟨rfl, hw5⟩; have hp := hp.bare hw5; clear hw5))
      | fail)
    obtain ⟨b1, b2, b3, hP⟩ : ∃ b1 b2 b3, MC w1 w4 w2.heap.size (kvsL b1 b2 b3) (boxL b1 b2 b3) := ⟨_, _, _, hp⟩
    clear hp
    refine (HG.out _ (HH.out.ses.ctx.below hP.bel).u8).mono ?_
    rintro e w6 ⟨rfl, hb6⟩
    have hP := hP.later hb6
    have hl := hP.look ⟨#[72, 69, 76, 79]⟩ (.func (.func 60) #[] #[]) rfl
    have hq := fnF 60 w6
    have HP := Lib.hid hP
    clear hP hb6
    go_wp2_with fail
    refine (ses_helo (HH.out.ses.below HP.out.bel) R1).mono ?_
    rintro e w7 ⟨rfl, hst⟩
    have HT := Lib.hid hst
    clear hst
    go_wp2
    go_ret
    exact ⟨rfl, Stp.first HH.out.ses HP.out.bel (fun _ => HT.out)⟩
  · obtain rfl := key_lit hK (by unfold Asc; decide) hv
    clear hv hK
    go_enter Tryz.func38, Tryz.ntmps38
    go_wp2_with fail
    refine (HS.out _).mono ?_
    rintro e w1 ⟨rfl, rfl⟩
    go_wp2_with fail
    refine (HB.out _).mono ?_
    rintro e w1 ⟨rfl, rfl⟩
    go_wp2_with fail
    refine (HW.out _).mono ?_
    rintro e w2 ⟨rfl, hb2⟩
    have hp := MC.start hb2
    go_wp2_with (first
      | (refine wpList_insert_map _ rfl (.tmp 18) _ _ _ rfl _ _ Tryz.underlying93 Tryz.underlying9 _ _ rfl hp.map _ rfl (by kernel_rfl) ?_; intro w4 hm4 hg4; have hp := hp.step hm4 hg4; clear hm4 hg4)
      | (go_at_call 63; ((with_reducible refine (bare_any _ _).mono ?_); rintro e w5 ⟨rfl, hw5⟩; have hp := hp.bare hw5; clear hw5))
      | fail)
    obtain ⟨b1, b2, b3, hP⟩ : ∃ b1 b2 b3, MC w1 w4 w2.heap.size (kvsL b1 b2 b3) (boxL b1 b2 b3) := ⟨_, _, _, hp⟩
    clear hp
    refine (HG.out _ (HH.out.ses.ctx.below hP.bel).u8).mono ?_
    rintro e w6 ⟨rfl, hb6⟩
    have hP := hP.later hb6
    have hl := hP.look ⟨#[77, 65, 73, 76]⟩ (.func (.func 61) #[] #[]) rfl
    have hq := fnF 61 w6
    have HP := Lib.hid hP
    clear hP hb6
    go_wp2_with fail
    refine (ses_mail (HH.out.ses.below HP.out.bel) R1 HZ.out).mono ?_
    rintro e w7 ⟨rfl, hst⟩
    have HT := Lib.hid hst
    clear hst
    go_wp2
    go_ret
    exact ⟨rfl, Stp.first HH.out.ses HP.out.bel (fun _ => HT.out)⟩
  · obtain rfl := key_lit hK (by unfold Asc; decide) hv
    clear hv hK
    go_enter Tryz.func38, Tryz.ntmps38
    go_wp2_with fail
    refine (HS.out _).mono ?_
    rintro e w1 ⟨rfl, rfl⟩
    go_wp2_with fail
    refine (HB.out _).mono ?_
    rintro e w1 ⟨rfl, rfl⟩
    go_wp2_with fail
    refine (HW.out _).mono ?_
    rintro e w2 ⟨rfl, hb2⟩
    have hp := MC.start hb2
    go_wp2_with (first
      | (refine wpList_insert_map _ rfl (.tmp 18) _ _ _ rfl _ _ Tryz.underlying93 Tryz.underlying9 _ _ rfl hp.map _ rfl (by kernel_rfl) ?_; intro w4 hm4 hg4; have hp := hp.step hm4 hg4; clear hm4 hg4)
      | (go_at_call 63; ((with_reducible refine (bare_any _ _).mono ?_); rintro e w5 ⟨rfl, hw5⟩; have hp := hp.bare hw5; clear hw5))
      | fail)
    obtain ⟨b1, b2, b3, hP⟩ : ∃ b1 b2 b3, MC w1 w4 w2.heap.size (kvsL b1 b2 b3) (boxL b1 b2 b3) := ⟨_, _, _, hp⟩
    clear hp
    refine (HG.out _ (HH.out.ses.ctx.below hP.bel).u8).mono ?_
    rintro e w6 ⟨rfl, hb6⟩
    have hP := hP.later hb6
    have hl := hP.look ⟨#[82, 67, 80, 84]⟩ (.func (.func 62) #[] #[]) rfl
    have hq := fnF 62 w6
    have HP := Lib.hid hP
    clear hP hb6
    go_wp2_with fail
    refine (ses_rcpt (HH.out.ses.below HP.out.bel) R1 HZ.out HH.out.rcp).mono ?_
    rintro e w7 ⟨rfl, hst⟩
    have HT := Lib.hid hst
    clear hst
    go_wp2
    go_ret
    exact ⟨rfl, Stp.first HH.out.ses HP.out.bel (fun _ => HT.out)⟩
  · obtain rfl := key_lit hK (by unfold Asc; decide) hv
    clear hv hK
    go_enter Tryz.func38, Tryz.ntmps38
    go_wp2_with fail
    refine (HS.out _).mono ?_
    rintro e w1 ⟨rfl, rfl⟩
    go_wp2_with fail
    refine (HB.out _).mono ?_
    rintro e w1 ⟨rfl, rfl⟩
    go_wp2_with fail
    refine (HW.out _).mono ?_
    rintro e w2 ⟨rfl, hb2⟩
    have hp := MC.start hb2
    go_wp2_with (first
      | (refine wpList_insert_map _ rfl (.tmp 18) _ _ _ rfl _ _ Tryz.underlying93 Tryz.underlying9 _ _ rfl hp.map _ rfl (by kernel_rfl) ?_; intro w4 hm4 hg4; have hp := hp.step hm4 hg4; clear hm4 hg4)
      | (go_at_call 63; ((with_reducible refine (bare_any _ _).mono ?_); rintro e w5 ⟨rfl, hw5⟩; have hp := hp.bare hw5; clear hw5))
      | fail)
    obtain ⟨b1, b2, b3, hP⟩ : ∃ b1 b2 b3, MC w1 w4 w2.heap.size (kvsL b1 b2 b3) (boxL b1 b2 b3) := ⟨_, _, _, hp⟩
    clear hp
    refine (HG.out _ (HH.out.ses.ctx.below hP.bel).u8).mono ?_
    rintro e w6 ⟨rfl, hb6⟩
    have hP := hP.later hb6
    have hl := hP.look ⟨#[68, 65, 84, 65]⟩ (.func (.func 96) #[] #[.pointer (some ⟨b1, 0, none⟩)]) rfl
    have hq := fnC 96 b1 w6
    have HP := Lib.hid hP
    clear hP hb6
    go_wp2_with fail
    refine (ses_bdata (HH.out.ses.below HP.out.bel) b1 (HP.out.cell 0 _ _ rfl) R1).mono ?_
    rintro e w7 ⟨rfl, hst⟩
    have HT := Lib.hid hst
    clear hst
    go_wp2
    go_ret
    exact ⟨rfl, Stp.first HH.out.ses HP.out.bel (fun _ => HT.out)⟩
  · obtain rfl := key_lit hK (by unfold Asc; decide) hv
    clear hv hK
    go_enter Tryz.func38, Tryz.ntmps38
    go_wp2_with fail
    refine (HS.out _).mono ?_
    rintro e w1 ⟨rfl, rfl⟩
    go_wp2_with fail
    refine (HB.out _).mono ?_
    rintro e w1 ⟨rfl, rfl⟩
    go_wp2_with fail
    refine (HW.out _).mono ?_
    rintro e w2 ⟨rfl, hb2⟩
    have hp := MC.start hb2
    go_wp2_with (first
      | (refine wpList_insert_map _ rfl (.tmp 18) _ _ _ rfl _ _ Tryz.underlying93 Tryz.underlying9 _ _ rfl hp.map _ rfl (by kernel_rfl) ?_; intro w4 hm4 hg4; have hp := hp.step hm4 hg4; clear hm4 hg4)
      | (go_at_call 63; ((with_reducible refine (bare_any _ _).mono ?_); rintro e w5 ⟨rfl, hw5⟩; have hp := hp.bare hw5; clear hw5))
      | fail)
    obtain ⟨b1, b2, b3, hP⟩ : ∃ b1 b2 b3, MC w1 w4 w2.heap.size (kvsL b1 b2 b3) (boxL b1 b2 b3) := ⟨_, _, _, hp⟩
    clear hp
    refine (HG.out _ (HH.out.ses.ctx.below hP.bel).u8).mono ?_
    rintro e w6 ⟨rfl, hb6⟩
    have hP := hP.later hb6
    have hl := hP.look ⟨#[82, 83, 69, 84]⟩ (.func (.func 96) #[] #[.pointer (some ⟨b2, 0, none⟩)]) rfl
    have hq := fnC 96 b2 w6
    have HP := Lib.hid hP
    clear hP hb6
    go_wp2_with fail
    refine (ses_brset (HH.out.ses.below HP.out.bel) b2 (HP.out.cell 1 _ _ rfl) R1).mono ?_
    rintro e w7 ⟨rfl, hst⟩
    have HT := Lib.hid hst
    clear hst
    go_wp2
    go_ret
    exact ⟨rfl, Stp.first HH.out.ses HP.out.bel (fun _ => HT.out)⟩
  · obtain rfl := key_lit hK (by unfold Asc; decide) hv
    clear hv hK
    go_enter Tryz.func38, Tryz.ntmps38
    go_wp2_with fail
    refine (HS.out _).mono ?_
    rintro e w1 ⟨rfl, rfl⟩
    go_wp2_with fail
    refine (HB.out _).mono ?_
    rintro e w1 ⟨rfl, rfl⟩
    go_wp2_with fail
    refine (HW.out _).mono ?_
    rintro e w2 ⟨rfl, hb2⟩
    have hp := MC.start hb2
    go_wp2_with (first
      | (refine wpList_insert_map _ rfl (.tmp 18) _ _ _ rfl _ _ Tryz.underlying93 Tryz.underlying9 _ _ rfl hp.map _ rfl (by kernel_rfl) ?_; intro w4 hm4 hg4; have hp := hp.step hm4 hg4; clear hm4 hg4)
      | (go_at_call 63; ((with_reducible refine (bare_any _ _).mono ?_); rintro e w5 ⟨rfl, hw5⟩; have hp := hp.bare hw5; clear hw5))
      | fail)
    obtain ⟨b1, b2, b3, hP⟩ : ∃ b1 b2 b3, MC w1 w4 w2.heap.size (kvsL b1 b2 b3) (boxL b1 b2 b3) := ⟨_, _, _, hp⟩
    clear hp
    refine (HG.out _ (HH.out.ses.ctx.below hP.bel).u8).mono ?_
    rintro e w6 ⟨rfl, hb6⟩
    have hP := hP.later hb6
    have hl := hP.look ⟨#[81, 85, 73, 84]⟩ (.func (.func 96) #[] #[.pointer (some ⟨b3, 0, none⟩)]) rfl
    have hq := fnC 96 b3 w6
    have HP := Lib.hid hP
    clear hP hb6
    go_wp2_with fail
    refine (ses_bquit (HH.out.ses.below HP.out.bel) b3 (HP.out.cell 2 _ _ rfl) R1).mono ?_
    rintro e w7 ⟨rfl, hst⟩
    have HT := Lib.hid hst
    clear hst
    go_wp2
    go_ret
    exact ⟨rfl, Stp.first HH.out.ses HP.out.bel (fun _ => HT.out)⟩
  · obtain rfl := key_lit hK (by unfold Asc; decide) hv
    clear hv hK
    go_enter Tryz.func38, Tryz.ntmps38
    go_wp2_with fail
    refine (HS.out _).mono ?_
    rintro e w1 ⟨rfl, rfl⟩
    go_wp2_with fail
    refine (HB.out _).mono ?_
    rintro e w1 ⟨rfl, rfl⟩
    go_wp2_with fail
    refine (HW.out _).mono ?_
    rintro e w2 ⟨rfl, hb2⟩
    have hp := MC.start hb2
    go_wp2_with (first
      | (refine wpList_insert_map _ rfl (.tmp 18) _ _ _ rfl _ _ Tryz.underlying93 Tryz.underlying9 _ _ rfl hp.map _ rfl (by kernel_rfl) ?_; intro w4 hm4 hg4; have hp := hp.step hm4 hg4; clear hm4 hg4)
      | (go_at_call 63; ((with_reducible refine (bare_any _ _).mono ?_); rintro e w5 ⟨rfl, hw5⟩; have hp := hp.bare hw5; clear hw5))
      | fail)
    obtain ⟨b1, b2, b3, hP⟩ : ∃ b1 b2 b3, MC w1 w4 w2.heap.size (kvsL b1 b2 b3) (boxL b1 b2 b3) := ⟨_, _, _, hp⟩
    clear hp
    refine (HG.out _ (HH.out.ses.ctx.below hP.bel).u8).mono ?_
    rintro e w6 ⟨rfl, hb6⟩
    have hP := hP.later hb6
    have hl := hP.look ⟨#[78, 79, 79, 80]⟩ (.func (.func 67) #[] #[]) rfl
    have hq := fnF 67 w6
    have HP := Lib.hid hP
    clear hP hb6
    go_wp2_with fail
    refine (ses_noop (HH.out.ses.below HP.out.bel) R1).mono ?_
    rintro e w7 ⟨rfl, hst⟩
    have HT := Lib.hid hst
    clear hst
    go_wp2
    go_ret
    exact ⟨rfl, Stp.first HH.out.ses HP.out.bel (fun _ => HT.out)⟩
  · obtain rfl := key_lit hK (by unfold Asc; decide) hv
    clear hv hK
    go_enter Tryz.func38, Tryz.ntmps38
    go_wp2_with fail
    refine (HS.out _).mono ?_
    rintro e w1 ⟨rfl, rfl⟩
    go_wp2_with fail
    refine (HB.out _).mono ?_
    rintro e w1 ⟨rfl, rfl⟩
    go_wp2_with fail
    refine (HW.out _).mono ?_
    rintro e w2 ⟨rfl, hb2⟩
    have hp := MC.start hb2
    go_wp2_with (first
      | (refine wpList_insert_map _ rfl (.tmp 18) _ _ _ rfl _ _ Tryz.underlying93 Tryz.underlying9 _ _ rfl hp.map _ rfl (by kernel_rfl) ?_; intro w4 hm4 hg4; have hp := hp.step hm4 hg4; clear hm4 hg4)
      | (go_at_call 63; ((with_reducible refine (bare_any _ _).mono ?_); rintro e w5 ⟨rfl, hw5⟩; have hp := hp.bare hw5; clear hw5))
      | fail)
    obtain ⟨b1, b2, b3, hP⟩ : ∃ b1 b2 b3, MC w1 w4 w2.heap.size (kvsL b1 b2 b3) (boxL b1 b2 b3) := ⟨_, _, _, hp⟩
    clear hp
    refine (HG.out _ (HH.out.ses.ctx.below hP.bel).u8).mono ?_
    rintro e w6 ⟨rfl, hb6⟩
    have hP := hP.later hb6
    have hl := hP.look ⟨#[86, 82, 70, 89]⟩ (.func (.func 68) #[] #[]) rfl
    have hq := fnF 68 w6
    have HP := Lib.hid hP
    clear hP hb6
    go_wp2_with fail
    refine (ses_vrfy (HH.out.ses.below HP.out.bel) R1).mono ?_
    rintro e w7 ⟨rfl, hst⟩
    have HT := Lib.hid hst
    clear hst
    go_wp2
    go_ret
    exact ⟨rfl, Stp.first HH.out.ses HP.out.bel (fun _ => HT.out)⟩
  · obtain ⟨n0, n1, n2, n3, n4, n5, n6, n7, n8⟩ := hv
    have k0 := key_none hK (by unfold Asc; decide) n0
    have k1 := key_none hK (by unfold Asc; decide) n1
    have k2 := key_none hK (by unfold Asc; decide) n2
    have k3 := key_none hK (by unfold Asc; decide) n3
    have k4 := key_none hK (by unfold Asc; decide) n4
    have k5 := key_none hK (by unfold Asc; decide) n5
    have k6 := key_none hK (by unfold Asc; decide) n6
    have k7 := key_none hK (by unfold Asc; decide) n7
    have k8 := key_none hK (by unfold Asc; decide) n8
    have HN := Lib.hid (fun b1 b2 b3 => look_none b1 b2 b3 k0 k1 k2 k3 k4 k5 k6 k7 k8)
    clear hK n0 n1 n2 n3 n4 n5 n6 n7 n8 k0 k1 k2 k3 k4 k5 k6 k7 k8
    go_enter Tryz.func38, Tryz.ntmps38
    go_wp2_with fail
    refine (HS.out _).mono ?_
    rintro e w1 ⟨rfl, rfl⟩
    go_wp2_with fail
    refine (HB.out _).mono ?_
    rintro e w1 ⟨rfl, rfl⟩
    go_wp2_with fail
    refine (HW.out _).mono ?_
    rintro e w2 ⟨rfl, hb2⟩
    have hp := MC.start hb2
    go_wp2_with (first
      | (refine wpList_insert_map _ rfl (.tmp 18) _ _ _ rfl _ _ Tryz.underlying93 Tryz.underlying9 _ _ rfl hp.map _ rfl (by kernel_rfl) ?_; intro w4 hm4 hg4; have hp := hp.step hm4 hg4; clear hm4 hg4)
      | (go_at_call 63; ((with_reducible refine (bare_any _ _).mono ?_); rintro e w5 ⟨rfl, hw5⟩; have hp := hp.bare hw5; clear hw5))
      | fail)
    obtain ⟨b1, b2, b3, hP⟩ : ∃ b1 b2 b3, MC w1 w4 w2.heap.size (kvsL b1 b2 b3) (boxL b1 b2 b3) := ⟨_, _, _, hp⟩
    clear hp
    refine (HG.out _ (HH.out.ses.ctx.below hP.bel).u8).mono ?_
    rintro e w6 ⟨rfl, hb6⟩
    have hP := hP.later hb6
    have hl := hP.look _ .nilFunc (HN.out _ _ _)
    have hq := fnNil w6
    have HP := Lib.hid hP
    clear hP hb6
    go_wp2_with fail
    refine (reply_at 500 (by decide) (by decide) (HH.out.ses.below HP.out.bel).ctx).mono ?_
    rintro e w7 ⟨rfl, hb7⟩
    have HT := Lib.hid hb7
    clear hb7
    go_wp2
    go_ret
    exact ⟨rfl, Stp.same HH.out.ses (HP.out.bel.trans (HT.out.mono HP.out.bel.size))⟩
end Go.Proofs.YtjoipgekmnnlpaaGreatDoor
