/- Walks: a mail session: mail. -/
import Derived.Test.YtjoipgekmnnlpaaGreatDoorSmM
namespace Go.Proofs.YtjoipgekmnnlpaaGreatDoor
open Go.RowKit Go.Shelf Go.Lib Pk Sm

variable {G : Nat} {w : World} {sb : Nat} {fp kv sp tv bp : Value} {g lg wt ov : Bool}
theorem asc_from : Asc fromK := by
  intro b hb
  simp [fromK] at hb
  rcases hb with rfl | rfl | rfl | rfl | rfl <;> decide
/-- what mail leaves -/
def MailP (w w' : World) (sb most : Nat) (fp kv : Value) (g : Bool) (sp tv bp : Value) (lg wt ov : Bool) (c : Nat × Option (List UInt8)) (e : Ending) : Prop :=
  e = .returned (.string (bt (repW c.1))) ∧ Fr (Bk sb) w w' ∧
  match c.2 with
  | none => Raw w' sb most fp kv g sp tv bp lg wt ov
  | some a => ∃ b, w.heap.size ≤ b ∧ Raw w' sb most fp kv g (.pointer (some ⟨b, 0, none⟩)) tv bp lg wt ov ∧ w'.heap[b]? = some (.cells #[.string (bt a)] 9 (0, 0))
theorem numV_le {l : List UInt8} {v : Nat} (h : numV l = some v) : v ≤ 9223372036854775807 := by
  unfold numV at h
  split at h
  · rename_i hc
    injection h with h
    rw [← h]; exact hc.2.2.2
  · cases h
theorem optsW_cons (k : Nat) (c : UInt8) (l : List UInt8) (s b : Bool) (n : Nat) : optsW (k + 1) (c :: l) s b n = (match optW (wordW (c :: l)).1 with
    | none => none
    | some none => if b = true then none else optsW k (wordW (c :: l)).2 s true n
    | some (some j) => if s = true then none else optsW k (wordW (c :: l)).2 true b j) := rfl
def szOf : Value → Nat
  | .string s => s.size
  | _ => 0
/-- the box of the sender, and what stands -/
structure MB (w W : World) (bx : Nat) (a : List UInt8) : Prop where
  bel : Below w.heap.size w W
  box : W.heap[bx]? = some (.cells #[.string (bt a)] 9 (0, 0))
  hbx : w.heap.size ≤ bx
theorem MB.later {W W' : World} {bx : Nat} {a : List UInt8} (h : MB w W bx a) (hb : Below W.heap.size W W') : MB w W' bx a :=
  ⟨h.bel.trans (hb.mono h.bel.size), (hb.block bx (lt_of_block h.box)).trans h.box, h.hbx⟩
theorem MB.cell {W : World} {bx : Nat} {a : List UInt8} (h : MB w W bx a) : W.cell? ⟨bx, 0, none⟩ = some (.string (bt a)) := (Lib.cell_of_heap h.box _).trans rfl
theorem MB.start {w1 : World} {a : List UInt8} (h : Below w.heap.size w w1) : MB w (w1.alloc (.cells #[.string (bt a)] 9)) w1.heap.size a :=
  ⟨h.alloc h.size _, heap_alloc_new w1 _, h.size⟩
theorem hd_ext (c : UInt8) (r : List UInt8) : (bt (c :: r)).extract 0 1 = bt [c] := by
  rw [← bt_back ((bt (c :: r)).extract 0 1), ext_to, bt_data]
  rfl
theorem ca_any (c : UInt8) (W : World) : Calls Tryz.prog 94 #[.string (bt [c]), .string ⟨#[32, 9]⟩] W fun e w' => e = .returned (.bool (blk c)) ∧ Below W.heap.size W w' := by
  have h := cany_any (bt [c]) W (by show 1 ≤ 1000000; decide)
  rw [bt_data] at h
  have e : decide (firstB [c] < [c].length) = blk c := by
    unfold firstB
    cases hb : blk c <;> simp [hb]
  rw [e] at h
  exact h
def szB : ByteArray := ⟨#[83, 73, 90, 69]⟩
def bdB : ByteArray := ⟨#[66, 79, 68, 89]⟩
/-- the map of the kinds that are there, the box, and what stands -/
structure ML (w W : World) (bx r : Nat) (a : List UInt8) (kvs : List (ByteArray × Value)) (s b : Bool) : Prop where
  mb : MB w W bx a
  map : mapIs W r kvs
  hr : w.heap.size ≤ r
  ne : bx ≠ r
  hs : mapHas szB kvs = s
  hb : mapHas bdB kvs = b
  all : ∀ p ∈ kvs, p.2 = .bool true
theorem ML.start {W : World} {bx : Nat} {a : List UInt8} (h : MB w W bx a) : ML w (W.alloc (.map #[] 0)) bx W.heap.size a [] false false :=
  ⟨h.later ((Below.refl _ _).alloc (Nat.le_refl _) _), mapIs_new W, h.bel.size, fun e => by have := lt_of_block h.box; omega, rfl, rfl, fun _ h => by cases h⟩
theorem ML.later {W W' : World} {bx r : Nat} {a : List UInt8} {kvs : List (ByteArray × Value)} {s b : Bool} (h : ML w W bx r a kvs s b) (hb : Below W.heap.size W W') : ML w W' bx r a kvs s b :=
  ⟨h.mb.later hb, mapIs_below h.map hb (mapIs_lt h.map), h.hr, h.ne, h.hs, h.hb, h.all⟩
theorem mapGet_all (k : ByteArray) : ∀ (kvs : List (ByteArray × Value)), (∀ p ∈ kvs, p.2 = .bool true) → mapGet k (.bool false) kvs = .bool (mapHas k kvs)
  | [], _ => rfl
  | p :: r, h => by
    unfold mapGet mapHas
    cases hk : k == p.1 with
    | true => rw [if_pos rfl, h p (by simp)]; rfl
    | false => rw [if_neg (by decide), mapGet_all k r (fun q hq => h q (by simp [hq]))]; rfl
theorem mapHas_snoc (k x : ByteArray) (v : Value) : ∀ kvs : List (ByteArray × Value), mapHas k (kvs ++ [(x, v)]) = (mapHas k kvs || (k == x))
  | [] => by simp [mapHas]
  | p :: r => by rw [List.cons_append]; unfold mapHas; rw [mapHas_snoc k x v r, Bool.or_assoc]
theorem ML.put {W W' : World} {bx r : Nat} {a : List UInt8} {kvs : List (ByteArray × Value)} {s b : Bool} (h : ML w W bx r a kvs s b) (k : ByteArray) (hm : mapIs W' r (kvs ++ [(k, .bool true)])) (hg : W.grownBy W' (some r)) : ML w W' bx r a (kvs ++ [(k, .bool true)]) (s || (szB == k)) (b || (bdB == k)) :=
  ⟨⟨Below_map h.mb.bel h.hr hg h.mb.bel.size, (hg.block bx (lt_of_block h.mb.box) (fun e => h.ne (by injection e))).trans h.mb.box, h.mb.hbx⟩, hm, h.hr, h.ne, by rw [mapHas_snoc, h.hs], by rw [mapHas_snoc, h.hb], fun p hp => by
    rcases List.mem_append.1 hp with e | e
    · exact h.all p e
    · simp at e; rw [e]⟩
theorem ML.look {W : World} {bx r : Nat} {a : List UInt8} {kvs : List (ByteArray × Value)} {s b : Bool} (h : ML w W bx r a kvs s b) (k : ByteArray) : (Instr.lookup 105 (.map (some r)) (.string k) false).run Tryz.prog W = .ok (.bool (mapHas k kvs)) W := by
  rw [← mapGet_all k kvs h.all]
  exact run_lookup_map h.map Tryz.underlying105 Tryz.underlying9 k (.bool false) (by kernel_rfl)
/-- what an option's value says -/
def mailE (most : Nat) (a : List UInt8) : Option Nat → Nat × Option (List UInt8)
  | none => (501, none)
  | some n => if most < n then (552, none) else (250, some a)
set_option maxHeartbeats 32000000 in
set_option maxRecDepth 100000 in
theorem mail_any (most : Nat) (rest : ByteArray) (hs : rest.size ≤ 100000) (has : Bool) (hsp : if has = true then ∃ p, sp = .pointer (some p) else sp = .pointer none) (hC : Ctx G w) (hG : G ≤ sb) (h : Raw w sb most fp kv g sp tv bp lg wt ov) :
    Calls Tryz.prog 61 #[.pointer (some ⟨sb, 0, none⟩), .string rest] w fun e w' => MailP w w' sb most fp kv g sp tv bp lg wt ov (mailC most g has rest.data.toList) e := by
  obtain ⟨⟨c0, -, -, c3, c4, -⟩, hf⟩ := h.cells
  have H := Lib.hid h
  have HC := Lib.hid (And.intro hC hG)
  cases g with
  | false =>
    have e0 : mailC most false has rest.data.toList = (503, none) := rfl
    rw [e0]
    clear hf h hC hG
    go_enter Tryz.func61, Tryz.ntmps61
    have HR := Lib.hid (reply_at 503 (by decide) (by decide) HC.out.1)
    go_wp2_with fail
    refine HR.out.mono ?_
    rintro e w9 ⟨rfl, hb9⟩
    go_wp2
    go_ret
    exact ⟨rfl, (Fr.of_below (Below.refl _ _)).then hb9, (H.out.later (Below.refl _ _)).later hb9⟩
  | true =>
    cases has with
    | true =>
      rw [if_pos rfl] at hsp
      obtain ⟨p, rfl⟩ := hsp
      have e0 : mailC most true true rest.data.toList = (503, none) := rfl
      rw [e0]
      clear hf h hC hG
      go_enter Tryz.func61, Tryz.ntmps61
      have HR := Lib.hid (reply_at 503 (by decide) (by decide) HC.out.1)
      go_wp2_with fail
      refine HR.out.mono ?_
      rintro e w9 ⟨rfl, hb9⟩
      go_wp2
      go_ret
      exact ⟨rfl, (Fr.of_below (Below.refl _ _)).then hb9, (H.out.later (Below.refl _ _)).later hb9⟩
    | false =>
      rw [if_neg (by decide)] at hsp
      subst hsp
      obtain ⟨m, hm⟩ := hC.max
      have hP := pathS_any rest (bt fromK) w (by omega) (by rw [bt_data]; exact asc_from) hC.u8 m hm
      rw [bt_data] at hP
      have hKt : bt fromK = ⟨#[70, 82, 79, 77, 58]⟩ := rfl
      rw [hKt] at hP
      unfold mailC
      rw [if_neg (by decide)]
      cases hp : path2 fromK rest.data.toList with
      | none =>
        rw [hp] at hP
        have HP := Lib.hid hP
        clear hf h hC hP hp hm hKt hG
        show Calls _ _ _ _ (fun e w' => MailP w w' sb most fp kv true (.pointer none) tv bp lg wt ov (501, none) e)
        go_enter Tryz.func61, Tryz.ntmps61
        go_wp2_with fail
        refine HP.out.mono ?_
        rintro e w1 ⟨rfl, hb1⟩
        have HB := Lib.hid (MB.start (a := []) hb1).bel
        clear hb1
        have HR := Lib.hid (reply_at 501 (by decide) (by decide) (HC.out.1.below HB.out))
        go_wp2_with fail
        refine HR.out.mono ?_
        rintro e w9 ⟨rfl, hb9⟩
        go_wp2
        go_ret
        exact ⟨rfl, (Fr.of_below HB.out).then hb9, (H.out.later HB.out).later hb9⟩
      | some q =>
        obtain ⟨a, y⟩ := q
        rw [hp] at hP
        obtain ⟨la, ly⟩ := path2_len hp
        have hpl : rest.data.toList.length = rest.size := rfl
        have hP' : Calls Tryz.prog 92 #[.string rest, .string ⟨#[70, 82, 79, 77, 58]⟩] w fun e w' => e = .returned (.tuple #[.string (bt a), .string (bt y), .bool true]) ∧ Below w.heap.size w w' := hP
        have HP := Lib.hid hP'
        have hya : (bt y).size = y.length := by show y.toArray.size = _; simp
        have haa : (bt a).size = a.length := by show a.toArray.size = _; simp
        have hM := fun W => mayS_any (bt a) W (by omega)
        rw [bt_data] at hM
        obtain ⟨O, hO⟩ : ∃ O, O = optsW y.length y false false 0 := ⟨_, rfl⟩
        show Calls _ _ _ _ (fun e w' => MailP w w' sb most fp kv true (.pointer none) tv bp lg wt ov (if ((!a.isEmpty && !mayW a) || hdB y) = true then (501, none) else mailE most a (optsW y.length y false false 0)) e)
        rw [← hO]
        have HO := Lib.hid (And.intro hO.symm (Nat.le_refl y.length))
        clear hO
        have hyl : y.length ≤ 100000 := by omega
        by_cases ha : a = []
        · subst ha
          have e1 : bt ([] : List UInt8) = ⟨#[]⟩ := rfl
          rw [e1] at HP
          cases y with
          | nil =>
            rw [if_neg (by decide)]
            rw [e1] at HP
            clear hM hf h hC hG hP hp hm hKt hP' hpl hya haa e1 la ly
            go_enter Tryz.func61, Tryz.ntmps61
            go_wp2_with fail
            refine HP.out.mono ?_
            rintro e w1 ⟨rfl, hb1⟩
            have tb := Lib.hid (MB.start (a := ([] : List UInt8)) hb1)
            have cb : (w1.alloc (.cells #[.string ⟨#[]⟩] 9)).cell? ⟨w1.heap.size, 0, none⟩ = some (.string ⟨#[]⟩) := tb.out.cell
            clear hb1
            have hmm := @run_makeMap Tryz.prog
            go_wp2
            clear hmm cb
            go_loopw [1, 7] (fun rv nv wr => ∃ (y' : List UInt8) (s b : Bool) (n k : Nat) (kvs : List (ByteArray × Value)), rv = .string (bt y') ∧ nv = .int .i64 n ∧ Hid (ML w wr w1.heap.size (w1.heap.size + 1) ([] : List UInt8) kvs s b) ∧ y'.length ≤ 100000 ∧ n ≤ 9223372036854775807 ∧ Hid (y'.length ≤ k ∧ optsW k y' s b n = O)) (fun rv _ _ => szOf rv)
            case atStart => exact ⟨([] : List UInt8), false, false, 0, _, [], by first | rfl | (rw [HYE.out.1]), rfl, Lib.hid (by have h := ML.start tb.out; first | exact h | (rw [show (w1.alloc (.cells #[.string (bt ([] : List UInt8))] 9)).heap.size = w1.heap.size + 1 by simp] at h; exact h)), by have := hyl; omega, by decide, HO.out.2, HO.out.1⟩
            case round =>
              obtain ⟨y', s, b, n, k, kvs, rfl, rfl, hml, hy1, hn, hrel⟩ := hrel
              have d0 := (H.out.later hml.out.mb.bel).cells.1.1
              have d4 := (H.out.later hml.out.mb.bel).cells.1.2.2.2.2.1
              have g4 := (H.out.later hml.out.mb.bel).cells.2 4
              cases y' with
              | nil =>
                have hOe : O = some n := by rw [← hrel.out.2]; cases k <;> rfl
                subst hOe
                have e0 : bt ([] : List UInt8) = ⟨#[]⟩ := rfl
                rw [e0]
                clear hrel HO
                by_cases hmn : most < n
                · have q1 : decide ((most : Int) < (n : Int)) = true := decide_eq_true (by omega)
                  have q2 : decide (most < n) = true := decide_eq_true hmn
                  have hE : Hid (mailE most ([] : List UInt8) (some n) = (552, none) ∧ 0 ≤ n) := ⟨if_pos hmn, Nat.zero_le _⟩
                  clear hmn e0 hy1
                  have HR := Lib.hid (reply_at 552 (by decide) (by decide) (HC.out.1.below hml.out.mb.bel))
                  go_wp2_with fail
                  refine HR.out.mono ?_
                  rintro e w9 ⟨rfl, hb9⟩
                  go_wp2
                  go_ret
                  rw [hE.out.1]
                  exact ⟨rfl, (Fr.of_below hml.out.mb.bel).then hb9, (H.out.later hml.out.mb.bel).later hb9⟩
                · have q1 : decide ((most : Int) < (n : Int)) = false := decide_eq_false (by omega)
                  have q2 : decide (most < n) = false := decide_eq_false hmn
                  have hE : Hid (mailE most ([] : List UInt8) (some n) = (250, some ([] : List UInt8)) ∧ 0 ≤ n) := ⟨if_neg hmn, Nat.zero_le _⟩
                  have hF := (Fr.of_below (X := Bk sb) hml.out.mb.bel).setCell (b := sb) (o := 4) (by rfl) (.pointer (some ⟨w1.heap.size, 0, none⟩))
                  have HF := Lib.hid hF
                  have HCF := Lib.hid (HC.out.1.own HC.out.2 hF)
                  clear hmn e0 hF hy1
                  have HR := Lib.hid (reply_at 250 (by decide) (by decide) HCF.out)
                  go_wp2_with fail
                  refine HR.out.mono ?_
                  rintro e w9 ⟨rfl, hb9⟩
                  go_wp2
                  go_ret
                  rw [hE.out.1]
                  have hbx := hml.out.mb.box
                  have hne : w1.heap.size ≠ sb := by have := hml.out.mb.hbx; have := H.out.lt; omega
                  have hb2 := (Below.heap_setCell wr ⟨sb, 4, none⟩ (.pointer (some ⟨w1.heap.size, 0, none⟩)) w1.heap.size hne).trans hbx
                  exact ⟨rfl, HF.out.then hb9, w1.heap.size, hml.out.mb.hbx, ((H.out.later hml.out.mb.bel).set4 _).later hb9, (hb9.block _ (lt_of_block hb2)).trans hb2⟩
              | cons c l =>
                have hne : (bt (c :: l)).toList.isEmpty = false := str_neq (by show 0 < (c :: l).toArray.size; simp)
                have hsz : (bt (c :: l)).size = l.length + 1 := by show (c :: l).toArray.size = _; simp
                have hle : l.length + 1 ≤ 100000 := hy1
                obtain ⟨k', rfl⟩ : ∃ k', k = k' + 1 := by
                  have := hrel.out.1
                  rw [List.length_cons] at this
                  exact ⟨k - 1, by omega⟩
                have hw := fun W => wordS_any (bt (c :: l)) W (by omega)
                rw [bt_data] at hw
                obtain ⟨z1, z2⟩ := wordW_len (c :: l) (by simp)
                rw [List.length_cons] at z1 z2
                have hst := hrel.out.2
                have hk := hrel.out.1
                rw [List.length_cons] at hk
                rw [optsW_cons] at hst
                obtain ⟨p, hp0⟩ : ∃ p, p = (wordW (c :: l)).1 := ⟨_, rfl⟩
                obtain ⟨y2, hy20⟩ : ∃ y2, y2 = (wordW (c :: l)).2 := ⟨_, rfl⟩
                unfold WordIs at hw
                rw [← hp0, ← hy20] at hw
                rw [← hp0, ← hy20] at hst
                rw [← hp0] at z1
                rw [← hy20] at z2
                have hpz : (bt p).size = p.length := by show p.toArray.size = _; simp
                have hg := fun W hT => great_any (bt p) W (by omega) hT
                rw [bt_data] at hg
                have hY2 : (bt y2).size = y2.length := by show y2.toArray.size = _; simp
                have hgl : (Lib.mapD upR p).length ≤ 1000000 := by have := mapD_len p; omega
                obtain ⟨Gb, hG1, hG2, hG3⟩ := bt_ex (Lib.mapD upR p)
                have hG4 : (⟨(Lib.mapD upR p).toArray⟩ : ByteArray) = Gb := hG1.symm
                rw [hG4] at hg
                have hcu := fun W m hm => Tryz.strings_Cut Gb ⟨#[61]⟩ m W (by omega) hm
                rw [hG2] at hcu
                obtain ⟨⟨K, V, f⟩, hcut⟩ : ∃ x, x = Lib.cut (Lib.mapD upR p) [61] := ⟨_, rfl⟩
                have e61 : (⟨#[61]⟩ : ByteArray).data.toList = [61] := rfl
                rw [e61, ← hcut] at hcu
                obtain ⟨Kb, hK1, hK2, hK3⟩ := bt_ex K
                obtain ⟨Vb, hV1, hV2, hV3⟩ := bt_ex V
                have hK4 : (⟨K.toArray⟩ : ByteArray) = Kb := hK1.symm
                have hV4 : (⟨V.toArray⟩ : ByteArray) = Vb := hV1.symm
                simp only [hK4, hV4] at hcu
                obtain ⟨l1, l2⟩ := cut_len (Lib.mapD upR p) 61
                rw [← hcut] at l1 l2
                simp only at l1 l2
                have hpa := fun W ev hv hev => parse_any Vb 0 9223372036854775807 W (by omega) ev hv hev
                rw [hV2, numV_parse] at hpa
                obtain ⟨R2, hR2⟩ : ∃ R2, R2 = bt y2 := ⟨_, rfl⟩
                rw [← hR2] at hw hY2
                have HRE := Lib.hid (And.intro hR2 (Nat.le_refl 0))
                clear hR2
                have HW := Lib.hid hw
                have HG := Lib.hid hg
                have HCU := Lib.hid hcu
                have HK := Lib.hid (And.intro hk (And.intro z2 hle))
                have HS2 := Lib.hid (show (bt (c :: l)).size = l.length + 1 ∧ R2.size = y2.length from ⟨hsz, hY2⟩)
                have hGt : Gb.toList = Lib.mapD upR p := by rw [Lib.toList_data, hG2]
                have hKt2 : Kb.toList = K := by rw [Lib.toList_data, hK2]
                generalize bt (c :: l) = R0 at *
                generalize bt p = P0 at *
                have hkn : szOf (.string R0) = l.length + 1 := HS2.out.1
                clear hw hg hcu hk z1 z2 hle hsz hY2 hp0 hy20 hgl hG1 hG3 hG4 e61 hK1 hK3 hV1 hV3 hK4 hV4 l1 l2 hpz hy1 hyl HO hG2 hrel
                by_cases hbody : Lib.mapD upR p = body7 ∨ Lib.mapD upR p = body8
                · obtain ⟨o1, o2⟩ := opt_body p hbody
                  rw [← hcut] at o2
                  have o2 : K = bodyN := o2
                  rw [o1] at hst
                  have hKb : Kb = bdB := by rw [← bt_back Kb, hK2, o2]; rfl
                  have qK : (Kb.toList == ([83, 73, 90, 69] : List UInt8)) = false := by rw [hKt2, o2]; decide
                  have hpa2 : ∃ N : Int, ∃ F : Bool, ∀ (W : World) (ev : Value), W.cell? ⟨2, 0, none⟩ = some ev → (ev = .nilIface ∨ ∃ te pe, ev = .iface te pe) → Calls Tryz.prog 26 #[.string Vb, .int .i64 0, .int .i64 9223372036854775807] W fun e w' => e = .returned (.tuple #[.int .i64 N, .bool F]) ∧ Below W.heap.size W w' := ⟨_, _, hpa⟩
                  obtain ⟨N, F, hpa2⟩ := hpa2
                  have HPA := Lib.hid hpa2
                  have hhas : mapHas Kb kvs = b := by rw [hKb]; exact hml.out.hb
                  have hG7 : (Gb.toList == ([66, 79, 68, 89, 61, 55, 66, 73, 84] : List UInt8)) = true ∨ ((Gb.toList == ([66, 79, 68, 89, 61, 55, 66, 73, 84] : List UInt8)) = false ∧ (Gb.toList == ([66, 79, 68, 89, 61, 56, 66, 73, 84, 77, 73, 77, 69] : List UInt8)) = true) := by
                    rw [hGt]
                    rcases hbody with e | e <;> rw [e]
                    · exact .inl (by decide)
                    · exact .inr ⟨by decide, by decide⟩
                  cases b with
                  | true =>
                    have hON : O = none := by rw [← hst]; rfl
                    subst hON
                    clear hpa hpa2 hbody o1 o2 hst hcut hGt hKt2 hG7 hK2 hV2 hKb
                    go_wp2_with fail
                    refine (HW.out _).mono ?_
                    rintro e w2 ⟨rfl, hb2⟩
                    have hml := Lib.hid (hml.out.later hb2)
                    have u8 := (HC.out.1.below hml.out.mb.bel).u8
                    clear hb2
                    go_wp2_with fail
                    refine (HG.out _ u8).mono ?_
                    rintro e w3 ⟨rfl, hb3⟩
                    have hml := Lib.hid (hml.out.later hb3)
                    obtain ⟨m3, hm3⟩ := (HC.out.1.below hml.out.mb.bel).max
                    clear hb3 u8
                    go_wp2_with fail
                    refine (HCU.out _ m3 hm3).mono ?_
                    rintro e w4 ⟨rfl, n4, rfl⟩
                    have hml := Lib.hid (hml.out.later (below_drawN _ n4))
                    clear hm3
                    generalize World.drewN _ n4 = w4 at *
                    obtain ⟨ev, hv, hev⟩ := (HC.out.1.below hml.out.mb.bel).err
                    go_wp2_with fail
                    refine (HPA.out _ ev hv hev).mono ?_
                    rintro e w5 ⟨rfl, hb5⟩
                    have hml := Lib.hid (hml.out.later hb5)
                    have hlk := hml.out.look Kb
                    clear hb5 hv hev
                    rw [hhas] at hlk
                    go_wp2_with fail
                    have HR := Lib.hid (reply_at 501 (by decide) (by decide) (HC.out.1.below hml.out.mb.bel))
                    refine HR.out.mono ?_
                    rintro e w9 ⟨rfl, hb9⟩
                    go_wp2
                    go_ret
                    exact ⟨rfl, (Fr.of_below hml.out.mb.bel).then hb9, (H.out.later hml.out.mb.bel).later hb9⟩
                  | false =>
                    have hst2 : optsW k' y2 s true n = O := hst
                    have HN := Lib.hid (And.intro hst2 hKb)
                    clear hpa hpa2 hbody o1 o2 hst hst2 hcut hGt hKt2 hK2 hV2 hKb
                    rcases hG7 with q7 | ⟨q7, q8⟩
                    · skip
                      go_wp2_with fail
                      refine (HW.out _).mono ?_
                      rintro e w2 ⟨rfl, hb2⟩
                      have hml := Lib.hid (hml.out.later hb2)
                      have u8 := (HC.out.1.below hml.out.mb.bel).u8
                      clear hb2
                      go_wp2_with fail
                      refine (HG.out _ u8).mono ?_
                      rintro e w3 ⟨rfl, hb3⟩
                      have hml := Lib.hid (hml.out.later hb3)
                      obtain ⟨m3, hm3⟩ := (HC.out.1.below hml.out.mb.bel).max
                      clear hb3 u8
                      go_wp2_with fail
                      refine (HCU.out _ m3 hm3).mono ?_
                      rintro e w4 ⟨rfl, n4, rfl⟩
                      have hml := Lib.hid (hml.out.later (below_drawN _ n4))
                      clear hm3
                      generalize World.drewN _ n4 = w4 at *
                      obtain ⟨ev, hv, hev⟩ := (HC.out.1.below hml.out.mb.bel).err
                      go_wp2_with fail
                      refine (HPA.out _ ev hv hev).mono ?_
                      rintro e w5 ⟨rfl, hb5⟩
                      have hml := Lib.hid (hml.out.later hb5)
                      have hlk := hml.out.look Kb
                      clear hb5 hv hev
                      rw [hhas] at hlk
                      go_wp2_with (refine wpList_update_map _ rfl (.tmp 97) (.tmp 98) _ _ rfl _ _ Tryz.underlying105 Tryz.underlying9 _ _ rfl hml.out.map _ rfl hhas ?_; intro w6 hm6 hg6; have hml := Lib.hid (hml.out.put Kb hm6 hg6); clear hm6 hg6)
                      go_roundw
                      case rel =>
                        have h6 := hml.out
                        rw [HN.out.2, show (szB == bdB) = false by decide, show (bdB == bdB) = true by decide, Bool.or_false, Bool.or_true] at h6
                        exact ⟨y2, s, true, n, k', _, by rw [HRE.out.1], rfl, Lib.hid h6, by have := HK.out; omega, hn, Lib.hid ⟨by have := HK.out; omega, HN.out.1⟩⟩
                      case measure =>
                        rw [hkn]
                        show R2.size < _
                        have := HS2.out
                        have := HK.out
                        omega
                    · skip
                      go_wp2_with fail
                      refine (HW.out _).mono ?_
                      rintro e w2 ⟨rfl, hb2⟩
                      have hml := Lib.hid (hml.out.later hb2)
                      have u8 := (HC.out.1.below hml.out.mb.bel).u8
                      clear hb2
                      go_wp2_with fail
                      refine (HG.out _ u8).mono ?_
                      rintro e w3 ⟨rfl, hb3⟩
                      have hml := Lib.hid (hml.out.later hb3)
                      obtain ⟨m3, hm3⟩ := (HC.out.1.below hml.out.mb.bel).max
                      clear hb3 u8
                      go_wp2_with fail
                      refine (HCU.out _ m3 hm3).mono ?_
                      rintro e w4 ⟨rfl, n4, rfl⟩
                      have hml := Lib.hid (hml.out.later (below_drawN _ n4))
                      clear hm3
                      generalize World.drewN _ n4 = w4 at *
                      obtain ⟨ev, hv, hev⟩ := (HC.out.1.below hml.out.mb.bel).err
                      go_wp2_with fail
                      refine (HPA.out _ ev hv hev).mono ?_
                      rintro e w5 ⟨rfl, hb5⟩
                      have hml := Lib.hid (hml.out.later hb5)
                      have hlk := hml.out.look Kb
                      clear hb5 hv hev
                      rw [hhas] at hlk
                      go_wp2_with (refine wpList_update_map _ rfl (.tmp 97) (.tmp 98) _ _ rfl _ _ Tryz.underlying105 Tryz.underlying9 _ _ rfl hml.out.map _ rfl hhas ?_; intro w6 hm6 hg6; have hml := Lib.hid (hml.out.put Kb hm6 hg6); clear hm6 hg6)
                      go_roundw
                      case rel =>
                        have h6 := hml.out
                        rw [HN.out.2, show (szB == bdB) = false by decide, show (bdB == bdB) = true by decide, Bool.or_false, Bool.or_true] at h6
                        exact ⟨y2, s, true, n, k', _, by rw [HRE.out.1], rfl, Lib.hid h6, by have := HK.out; omega, hn, Lib.hid ⟨by have := HK.out; omega, HN.out.1⟩⟩
                      case measure =>
                        rw [hkn]
                        show R2.size < _
                        have := HS2.out
                        have := HK.out
                        omega
                · have qB7 : (Gb.toList == ([66, 79, 68, 89, 61, 55, 66, 73, 84] : List UInt8)) = false := by
                    rw [hGt]; exact beq_eq_false_iff_ne.2 fun e => hbody (.inl e)
                  have qB8 : (Gb.toList == ([66, 79, 68, 89, 61, 56, 66, 73, 84, 77, 73, 77, 69] : List UInt8)) = false := by
                    rw [hGt]; exact beq_eq_false_iff_ne.2 fun e => hbody (.inr e)
                  by_cases hKn : K = sizeN
                  · have qK : (Kb.toList == ([83, 73, 90, 69] : List UInt8)) = true := by rw [hKt2, hKn]; decide
                    have hKb : Kb = szB := by rw [← bt_back Kb, hK2, hKn]; rfl
                    have hhas : mapHas Kb kvs = s := by rw [hKb]; exact hml.out.hs
                    cases hv : numV V with
                    | none =>
                      have ho := opt_none p K V f hbody hcut.symm (by rw [hv]; rintro ⟨-, h⟩; exact h rfl)
                      rw [ho] at hst
                      have hON : O = none := hst.symm
                      subst hON
                      simp only [hv] at hpa
                      have HPA := Lib.hid hpa
                      cases s with
                      | true =>
                        clear hpa hbody hst hcut hGt hKt2 hK2 hV2 hKb hKn ho hv
                        go_wp2_with fail
                        refine (HW.out _).mono ?_
                        rintro e w2 ⟨rfl, hb2⟩
                        have hml := Lib.hid (hml.out.later hb2)
                        have u8 := (HC.out.1.below hml.out.mb.bel).u8
                        clear hb2
                        go_wp2_with fail
                        refine (HG.out _ u8).mono ?_
                        rintro e w3 ⟨rfl, hb3⟩
                        have hml := Lib.hid (hml.out.later hb3)
                        obtain ⟨m3, hm3⟩ := (HC.out.1.below hml.out.mb.bel).max
                        clear hb3 u8
                        go_wp2_with fail
                        refine (HCU.out _ m3 hm3).mono ?_
                        rintro e w4 ⟨rfl, n4, rfl⟩
                        have hml := Lib.hid (hml.out.later (below_drawN _ n4))
                        clear hm3
                        generalize World.drewN _ n4 = w4 at *
                        obtain ⟨ev, hv, hev⟩ := (HC.out.1.below hml.out.mb.bel).err
                        go_wp2_with fail
                        refine (HPA.out _ ev hv hev).mono ?_
                        rintro e w5 ⟨rfl, hb5⟩
                        have hml := Lib.hid (hml.out.later hb5)
                        have hlk := hml.out.look Kb
                        clear hb5 hv hev
                        rw [hhas] at hlk
                        go_wp2_with fail
                        have HR := Lib.hid (reply_at 501 (by decide) (by decide) (HC.out.1.below hml.out.mb.bel))
                        refine HR.out.mono ?_
                        rintro e w9 ⟨rfl, hb9⟩
                        go_wp2
                        go_ret
                        exact ⟨rfl, (Fr.of_below hml.out.mb.bel).then hb9, (H.out.later hml.out.mb.bel).later hb9⟩
                      | false =>
                        clear hpa hbody hst hcut hGt hKt2 hK2 hV2 hKb hKn ho hv
                        go_wp2_with fail
                        refine (HW.out _).mono ?_
                        rintro e w2 ⟨rfl, hb2⟩
                        have hml := Lib.hid (hml.out.later hb2)
                        have u8 := (HC.out.1.below hml.out.mb.bel).u8
                        clear hb2
                        go_wp2_with fail
                        refine (HG.out _ u8).mono ?_
                        rintro e w3 ⟨rfl, hb3⟩
                        have hml := Lib.hid (hml.out.later hb3)
                        obtain ⟨m3, hm3⟩ := (HC.out.1.below hml.out.mb.bel).max
                        clear hb3 u8
                        go_wp2_with fail
                        refine (HCU.out _ m3 hm3).mono ?_
                        rintro e w4 ⟨rfl, n4, rfl⟩
                        have hml := Lib.hid (hml.out.later (below_drawN _ n4))
                        clear hm3
                        generalize World.drewN _ n4 = w4 at *
                        obtain ⟨ev, hv, hev⟩ := (HC.out.1.below hml.out.mb.bel).err
                        go_wp2_with fail
                        refine (HPA.out _ ev hv hev).mono ?_
                        rintro e w5 ⟨rfl, hb5⟩
                        have hml := Lib.hid (hml.out.later hb5)
                        have hlk := hml.out.look Kb
                        clear hb5 hv hev
                        rw [hhas] at hlk
                        go_wp2_with fail
                        have HR := Lib.hid (reply_at 501 (by decide) (by decide) (HC.out.1.below hml.out.mb.bel))
                        refine HR.out.mono ?_
                        rintro e w9 ⟨rfl, hb9⟩
                        go_wp2
                        go_ret
                        exact ⟨rfl, (Fr.of_below hml.out.mb.bel).then hb9, (H.out.later hml.out.mb.bel).later hb9⟩
                    | some v =>
                      have ho := opt_size p K V f v hbody hcut.symm hKn hv
                      rw [ho] at hst
                      have hvz := numV_le hv
                      simp only [hv] at hpa
                      have HPA := Lib.hid hpa
                      cases s with
                      | true =>
                        have hON : O = none := by rw [← hst]; rfl
                        subst hON
                        clear hpa hbody hst hcut hGt hKt2 hK2 hV2 hKb hKn ho hv
                        go_wp2_with fail
                        refine (HW.out _).mono ?_
                        rintro e w2 ⟨rfl, hb2⟩
                        have hml := Lib.hid (hml.out.later hb2)
                        have u8 := (HC.out.1.below hml.out.mb.bel).u8
                        clear hb2
                        go_wp2_with fail
                        refine (HG.out _ u8).mono ?_
                        rintro e w3 ⟨rfl, hb3⟩
                        have hml := Lib.hid (hml.out.later hb3)
                        obtain ⟨m3, hm3⟩ := (HC.out.1.below hml.out.mb.bel).max
                        clear hb3 u8
                        go_wp2_with fail
                        refine (HCU.out _ m3 hm3).mono ?_
                        rintro e w4 ⟨rfl, n4, rfl⟩
                        have hml := Lib.hid (hml.out.later (below_drawN _ n4))
                        clear hm3
                        generalize World.drewN _ n4 = w4 at *
                        obtain ⟨ev, hv, hev⟩ := (HC.out.1.below hml.out.mb.bel).err
                        go_wp2_with fail
                        refine (HPA.out _ ev hv hev).mono ?_
                        rintro e w5 ⟨rfl, hb5⟩
                        have hml := Lib.hid (hml.out.later hb5)
                        have hlk := hml.out.look Kb
                        clear hb5 hv hev
                        rw [hhas] at hlk
                        go_wp2_with fail
                        have HR := Lib.hid (reply_at 501 (by decide) (by decide) (HC.out.1.below hml.out.mb.bel))
                        refine HR.out.mono ?_
                        rintro e w9 ⟨rfl, hb9⟩
                        go_wp2
                        go_ret
                        exact ⟨rfl, (Fr.of_below hml.out.mb.bel).then hb9, (H.out.later hml.out.mb.bel).later hb9⟩
                      | false =>
                        have hst2 : optsW k' y2 true b v = O := hst
                        have HN := Lib.hid (And.intro hst2 hKb)
                        clear hpa hbody hst hst2 hcut hGt hKt2 hK2 hV2 hKb hKn ho hv
                        go_wp2_with fail
                        refine (HW.out _).mono ?_
                        rintro e w2 ⟨rfl, hb2⟩
                        have hml := Lib.hid (hml.out.later hb2)
                        have u8 := (HC.out.1.below hml.out.mb.bel).u8
                        clear hb2
                        go_wp2_with fail
                        refine (HG.out _ u8).mono ?_
                        rintro e w3 ⟨rfl, hb3⟩
                        have hml := Lib.hid (hml.out.later hb3)
                        obtain ⟨m3, hm3⟩ := (HC.out.1.below hml.out.mb.bel).max
                        clear hb3 u8
                        go_wp2_with fail
                        refine (HCU.out _ m3 hm3).mono ?_
                        rintro e w4 ⟨rfl, n4, rfl⟩
                        have hml := Lib.hid (hml.out.later (below_drawN _ n4))
                        clear hm3
                        generalize World.drewN _ n4 = w4 at *
                        obtain ⟨ev, hv, hev⟩ := (HC.out.1.below hml.out.mb.bel).err
                        go_wp2_with fail
                        refine (HPA.out _ ev hv hev).mono ?_
                        rintro e w5 ⟨rfl, hb5⟩
                        have hml := Lib.hid (hml.out.later hb5)
                        have hlk := hml.out.look Kb
                        clear hb5 hv hev
                        rw [hhas] at hlk
                        go_wp2_with (refine wpList_update_map _ rfl (.tmp 97) (.tmp 98) _ _ rfl _ _ Tryz.underlying105 Tryz.underlying9 _ _ rfl hml.out.map _ rfl hhas ?_; intro w6 hm6 hg6; have hml := Lib.hid (hml.out.put Kb hm6 hg6); clear hm6 hg6)
                        go_roundw
                        case rel =>
                          have h6 := hml.out
                          rw [HN.out.2, show (szB == szB) = true by decide, show (bdB == szB) = false by decide, Bool.or_false, Bool.or_true] at h6
                          exact ⟨y2, true, b, v, k', _, by rw [HRE.out.1], rfl, Lib.hid h6, by have := HK.out; omega, hvz, Lib.hid ⟨by have := HK.out; omega, HN.out.1⟩⟩
                        case measure =>
                          rw [hkn]
                          show R2.size < _
                          have := HS2.out
                          have := HK.out
                          omega
                  · have qK : (Kb.toList == ([83, 73, 90, 69] : List UInt8)) = false := by rw [hKt2]; exact beq_eq_false_iff_ne.2 hKn
                    have ho := opt_none p K V f hbody hcut.symm (fun h => hKn h.1)
                    rw [ho] at hst
                    have hON : O = none := hst.symm
                    subst hON
                    have hpa2 : ∃ N : Int, ∃ F : Bool, ∀ (W : World) (ev : Value), W.cell? ⟨2, 0, none⟩ = some ev → (ev = .nilIface ∨ ∃ te pe, ev = .iface te pe) → Calls Tryz.prog 26 #[.string Vb, .int .i64 0, .int .i64 9223372036854775807] W fun e w' => e = .returned (.tuple #[.int .i64 N, .bool F]) ∧ Below W.heap.size W w' := ⟨_, _, hpa⟩
                    obtain ⟨N, F, hpa2⟩ := hpa2
                    have HPA := Lib.hid hpa2
                    cases hhas : mapHas Kb kvs with
                    | true =>
                      clear hpa hpa2 hbody hst hcut hGt hKt2 hK2 hV2 hKn ho
                      go_wp2_with fail
                      refine (HW.out _).mono ?_
                      rintro e w2 ⟨rfl, hb2⟩
                      have hml := Lib.hid (hml.out.later hb2)
                      have u8 := (HC.out.1.below hml.out.mb.bel).u8
                      clear hb2
                      go_wp2_with fail
                      refine (HG.out _ u8).mono ?_
                      rintro e w3 ⟨rfl, hb3⟩
                      have hml := Lib.hid (hml.out.later hb3)
                      obtain ⟨m3, hm3⟩ := (HC.out.1.below hml.out.mb.bel).max
                      clear hb3 u8
                      go_wp2_with fail
                      refine (HCU.out _ m3 hm3).mono ?_
                      rintro e w4 ⟨rfl, n4, rfl⟩
                      have hml := Lib.hid (hml.out.later (below_drawN _ n4))
                      clear hm3
                      generalize World.drewN _ n4 = w4 at *
                      obtain ⟨ev, hv, hev⟩ := (HC.out.1.below hml.out.mb.bel).err
                      go_wp2_with fail
                      refine (HPA.out _ ev hv hev).mono ?_
                      rintro e w5 ⟨rfl, hb5⟩
                      have hml := Lib.hid (hml.out.later hb5)
                      have hlk := hml.out.look Kb
                      clear hb5 hv hev
                      rw [hhas] at hlk
                      go_wp2_with fail
                      have HR := Lib.hid (reply_at 501 (by decide) (by decide) (HC.out.1.below hml.out.mb.bel))
                      refine HR.out.mono ?_
                      rintro e w9 ⟨rfl, hb9⟩
                      go_wp2
                      go_ret
                      exact ⟨rfl, (Fr.of_below hml.out.mb.bel).then hb9, (H.out.later hml.out.mb.bel).later hb9⟩
                    | false =>
                      clear hpa hpa2 hbody hst hcut hGt hKt2 hK2 hV2 hKn ho
                      go_wp2_with fail
                      refine (HW.out _).mono ?_
                      rintro e w2 ⟨rfl, hb2⟩
                      have hml := Lib.hid (hml.out.later hb2)
                      have u8 := (HC.out.1.below hml.out.mb.bel).u8
                      clear hb2
                      go_wp2_with fail
                      refine (HG.out _ u8).mono ?_
                      rintro e w3 ⟨rfl, hb3⟩
                      have hml := Lib.hid (hml.out.later hb3)
                      obtain ⟨m3, hm3⟩ := (HC.out.1.below hml.out.mb.bel).max
                      clear hb3 u8
                      go_wp2_with fail
                      refine (HCU.out _ m3 hm3).mono ?_
                      rintro e w4 ⟨rfl, n4, rfl⟩
                      have hml := Lib.hid (hml.out.later (below_drawN _ n4))
                      clear hm3
                      generalize World.drewN _ n4 = w4 at *
                      obtain ⟨ev, hv, hev⟩ := (HC.out.1.below hml.out.mb.bel).err
                      go_wp2_with fail
                      refine (HPA.out _ ev hv hev).mono ?_
                      rintro e w5 ⟨rfl, hb5⟩
                      have hml := Lib.hid (hml.out.later hb5)
                      have hlk := hml.out.look Kb
                      clear hb5 hv hev
                      rw [hhas] at hlk
                      go_wp2_with fail
                      have HR := Lib.hid (reply_at 501 (by decide) (by decide) (HC.out.1.below hml.out.mb.bel))
                      refine HR.out.mono ?_
                      rintro e w9 ⟨rfl, hb9⟩
                      go_wp2
                      go_ret
                      exact ⟨rfl, (Fr.of_below hml.out.mb.bel).then hb9, (H.out.later hml.out.mb.bel).later hb9⟩
          | cons c r =>
            obtain ⟨Y, hYE⟩ : ∃ Y, Y = bt (c :: r) := ⟨_, rfl⟩
            rw [← hYE] at HP
            have hYs : Y.size = r.length + 1 := by rw [hYE]; show (c :: r).toArray.size = _; simp
            have hca := fun W => ca_any c W
            rw [← hd_ext c r, ← hYE] at hca
            have q1 : Y.toList.isEmpty = false := str_neq (by omega)
            have u2 : (1 : Int) ≤ (Y.size : Int) := by omega
            have HYE := Lib.hid (And.intro hYE (Nat.zero_le 0))
            cases hb : blk c with
            | false =>
              rw [hb] at hca
              have HCA := Lib.hid hca
              rw [if_pos (by simp [hdB, hb])]
              clear hM hf h hC hG hP hp hm hKt hP' hpl hya haa e1 la ly hb hca hYE hYs
              go_enter Tryz.func61, Tryz.ntmps61
              go_wp2_with fail
              refine HP.out.mono ?_
              rintro e w1 ⟨rfl, hb1⟩
              have tb := Lib.hid (MB.start (a := ([] : List UInt8)) hb1)
              have cb : (w1.alloc (.cells #[.string ⟨#[]⟩] 9)).cell? ⟨w1.heap.size, 0, none⟩ = some (.string ⟨#[]⟩) := tb.out.cell
              clear hb1
              go_wp2_with fail
              refine (HCA.out _).mono ?_
              rintro e w3 ⟨rfl, hb3⟩
              have tb := Lib.hid (tb.out.later hb3)
              clear hb3 cb
              have HR := Lib.hid (reply_at 501 (by decide) (by decide) (HC.out.1.below tb.out.bel))
              go_wp2_with fail
              refine HR.out.mono ?_
              rintro e w9 ⟨rfl, hb9⟩
              go_wp2
              go_ret
              exact ⟨rfl, (Fr.of_below tb.out.bel).then hb9, (H.out.later tb.out.bel).later hb9⟩
            | true =>
              rw [hb] at hca
              have HCA := Lib.hid hca
              rw [if_neg (by simp [hdB, hb])]
              clear hM hf h hC hG hP hp hm hKt hP' hpl hya haa e1 la ly hb hca hYE hYs
              go_enter Tryz.func61, Tryz.ntmps61
              go_wp2_with fail
              refine HP.out.mono ?_
              rintro e w1 ⟨rfl, hb1⟩
              have tb := Lib.hid (MB.start (a := ([] : List UInt8)) hb1)
              have cb : (w1.alloc (.cells #[.string ⟨#[]⟩] 9)).cell? ⟨w1.heap.size, 0, none⟩ = some (.string ⟨#[]⟩) := tb.out.cell
              clear hb1
              go_wp2_with fail
              refine (HCA.out _).mono ?_
              rintro e w3 ⟨rfl, hb3⟩
              have tb := Lib.hid (tb.out.later hb3)
              have cb := tb.out.cell
              clear hb3 q1 u2 HCA
              have hmm := @run_makeMap Tryz.prog
              go_wp2
              clear hmm cb
              go_loopw [1, 7] (fun rv nv wr => ∃ (y' : List UInt8) (s b : Bool) (n k : Nat) (kvs : List (ByteArray × Value)), rv = .string (bt y') ∧ nv = .int .i64 n ∧ Hid (ML w wr w1.heap.size (w3.heap.size) ([] : List UInt8) kvs s b) ∧ y'.length ≤ 100000 ∧ n ≤ 9223372036854775807 ∧ Hid (y'.length ≤ k ∧ optsW k y' s b n = O)) (fun rv _ _ => szOf rv)
              case atStart => exact ⟨(c :: r), false, false, 0, _, [], by first | rfl | (rw [HYE.out.1]), rfl, Lib.hid (by have h := ML.start tb.out; first | exact h | (rw [show (w1.alloc (.cells #[.string (bt ([] : List UInt8))] 9)).heap.size = w1.heap.size + 1 by simp] at h; exact h)), by have := hyl; omega, by decide, HO.out.2, HO.out.1⟩
              case round =>
                obtain ⟨y', s, b, n, k, kvs, rfl, rfl, hml, hy1, hn, hrel⟩ := hrel
                have d0 := (H.out.later hml.out.mb.bel).cells.1.1
                have d4 := (H.out.later hml.out.mb.bel).cells.1.2.2.2.2.1
                have g4 := (H.out.later hml.out.mb.bel).cells.2 4
                cases y' with
                | nil =>
                  have hOe : O = some n := by rw [← hrel.out.2]; cases k <;> rfl
                  subst hOe
                  have e0 : bt ([] : List UInt8) = ⟨#[]⟩ := rfl
                  rw [e0]
                  clear hrel HO
                  by_cases hmn : most < n
                  · have q1 : decide ((most : Int) < (n : Int)) = true := decide_eq_true (by omega)
                    have q2 : decide (most < n) = true := decide_eq_true hmn
                    have hE : Hid (mailE most ([] : List UInt8) (some n) = (552, none) ∧ 0 ≤ n) := ⟨if_pos hmn, Nat.zero_le _⟩
                    clear hmn e0 hy1
                    have HR := Lib.hid (reply_at 552 (by decide) (by decide) (HC.out.1.below hml.out.mb.bel))
                    go_wp2_with fail
                    refine HR.out.mono ?_
                    rintro e w9 ⟨rfl, hb9⟩
                    go_wp2
                    go_ret
                    rw [hE.out.1]
                    exact ⟨rfl, (Fr.of_below hml.out.mb.bel).then hb9, (H.out.later hml.out.mb.bel).later hb9⟩
                  · have q1 : decide ((most : Int) < (n : Int)) = false := decide_eq_false (by omega)
                    have q2 : decide (most < n) = false := decide_eq_false hmn
                    have hE : Hid (mailE most ([] : List UInt8) (some n) = (250, some ([] : List UInt8)) ∧ 0 ≤ n) := ⟨if_neg hmn, Nat.zero_le _⟩
                    have hF := (Fr.of_below (X := Bk sb) hml.out.mb.bel).setCell (b := sb) (o := 4) (by rfl) (.pointer (some ⟨w1.heap.size, 0, none⟩))
                    have HF := Lib.hid hF
                    have HCF := Lib.hid (HC.out.1.own HC.out.2 hF)
                    clear hmn e0 hF hy1
                    have HR := Lib.hid (reply_at 250 (by decide) (by decide) HCF.out)
                    go_wp2_with fail
                    refine HR.out.mono ?_
                    rintro e w9 ⟨rfl, hb9⟩
                    go_wp2
                    go_ret
                    rw [hE.out.1]
                    have hbx := hml.out.mb.box
                    have hne : w1.heap.size ≠ sb := by have := hml.out.mb.hbx; have := H.out.lt; omega
                    have hb2 := (Below.heap_setCell wr ⟨sb, 4, none⟩ (.pointer (some ⟨w1.heap.size, 0, none⟩)) w1.heap.size hne).trans hbx
                    exact ⟨rfl, HF.out.then hb9, w1.heap.size, hml.out.mb.hbx, ((H.out.later hml.out.mb.bel).set4 _).later hb9, (hb9.block _ (lt_of_block hb2)).trans hb2⟩
                | cons c l =>
                  have hne : (bt (c :: l)).toList.isEmpty = false := str_neq (by show 0 < (c :: l).toArray.size; simp)
                  have hsz : (bt (c :: l)).size = l.length + 1 := by show (c :: l).toArray.size = _; simp
                  have hle : l.length + 1 ≤ 100000 := hy1
                  obtain ⟨k', rfl⟩ : ∃ k', k = k' + 1 := by
                    have := hrel.out.1
                    rw [List.length_cons] at this
                    exact ⟨k - 1, by omega⟩
                  have hw := fun W => wordS_any (bt (c :: l)) W (by omega)
                  rw [bt_data] at hw
                  obtain ⟨z1, z2⟩ := wordW_len (c :: l) (by simp)
                  rw [List.length_cons] at z1 z2
                  have hst := hrel.out.2
                  have hk := hrel.out.1
                  rw [List.length_cons] at hk
                  rw [optsW_cons] at hst
                  obtain ⟨p, hp0⟩ : ∃ p, p = (wordW (c :: l)).1 := ⟨_, rfl⟩
                  obtain ⟨y2, hy20⟩ : ∃ y2, y2 = (wordW (c :: l)).2 := ⟨_, rfl⟩
                  unfold WordIs at hw
                  rw [← hp0, ← hy20] at hw
                  rw [← hp0, ← hy20] at hst
                  rw [← hp0] at z1
                  rw [← hy20] at z2
                  have hpz : (bt p).size = p.length := by show p.toArray.size = _; simp
                  have hg := fun W hT => great_any (bt p) W (by omega) hT
                  rw [bt_data] at hg
                  have hY2 : (bt y2).size = y2.length := by show y2.toArray.size = _; simp
                  have hgl : (Lib.mapD upR p).length ≤ 1000000 := by have := mapD_len p; omega
                  obtain ⟨Gb, hG1, hG2, hG3⟩ := bt_ex (Lib.mapD upR p)
                  have hG4 : (⟨(Lib.mapD upR p).toArray⟩ : ByteArray) = Gb := hG1.symm
                  rw [hG4] at hg
                  have hcu := fun W m hm => Tryz.strings_Cut Gb ⟨#[61]⟩ m W (by omega) hm
                  rw [hG2] at hcu
                  obtain ⟨⟨K, V, f⟩, hcut⟩ : ∃ x, x = Lib.cut (Lib.mapD upR p) [61] := ⟨_, rfl⟩
                  have e61 : (⟨#[61]⟩ : ByteArray).data.toList = [61] := rfl
                  rw [e61, ← hcut] at hcu
                  obtain ⟨Kb, hK1, hK2, hK3⟩ := bt_ex K
                  obtain ⟨Vb, hV1, hV2, hV3⟩ := bt_ex V
                  have hK4 : (⟨K.toArray⟩ : ByteArray) = Kb := hK1.symm
                  have hV4 : (⟨V.toArray⟩ : ByteArray) = Vb := hV1.symm
                  simp only [hK4, hV4] at hcu
                  obtain ⟨l1, l2⟩ := cut_len (Lib.mapD upR p) 61
                  rw [← hcut] at l1 l2
                  simp only at l1 l2
                  have hpa := fun W ev hv hev => parse_any Vb 0 9223372036854775807 W (by omega) ev hv hev
                  rw [hV2, numV_parse] at hpa
                  obtain ⟨R2, hR2⟩ : ∃ R2, R2 = bt y2 := ⟨_, rfl⟩
                  rw [← hR2] at hw hY2
                  have HRE := Lib.hid (And.intro hR2 (Nat.le_refl 0))
                  clear hR2
                  have HW := Lib.hid hw
                  have HG := Lib.hid hg
                  have HCU := Lib.hid hcu
                  have HK := Lib.hid (And.intro hk (And.intro z2 hle))
                  have HS2 := Lib.hid (show (bt (c :: l)).size = l.length + 1 ∧ R2.size = y2.length from ⟨hsz, hY2⟩)
                  have hGt : Gb.toList = Lib.mapD upR p := by rw [Lib.toList_data, hG2]
                  have hKt2 : Kb.toList = K := by rw [Lib.toList_data, hK2]
                  generalize bt (c :: l) = R0 at *
                  generalize bt p = P0 at *
                  have hkn : szOf (.string R0) = l.length + 1 := HS2.out.1
                  clear hw hg hcu hk z1 z2 hle hsz hY2 hp0 hy20 hgl hG1 hG3 hG4 e61 hK1 hK3 hV1 hV3 hK4 hV4 l1 l2 hpz hy1 hyl HO hG2 hrel
                  by_cases hbody : Lib.mapD upR p = body7 ∨ Lib.mapD upR p = body8
                  · obtain ⟨o1, o2⟩ := opt_body p hbody
                    rw [← hcut] at o2
                    have o2 : K = bodyN := o2
                    rw [o1] at hst
                    have hKb : Kb = bdB := by rw [← bt_back Kb, hK2, o2]; rfl
                    have qK : (Kb.toList == ([83, 73, 90, 69] : List UInt8)) = false := by rw [hKt2, o2]; decide
                    have hpa2 : ∃ N : Int, ∃ F : Bool, ∀ (W : World) (ev : Value), W.cell? ⟨2, 0, none⟩ = some ev → (ev = .nilIface ∨ ∃ te pe, ev = .iface te pe) → Calls Tryz.prog 26 #[.string Vb, .int .i64 0, .int .i64 9223372036854775807] W fun e w' => e = .returned (.tuple #[.int .i64 N, .bool F]) ∧ Below W.heap.size W w' := ⟨_, _, hpa⟩
                    obtain ⟨N, F, hpa2⟩ := hpa2
                    have HPA := Lib.hid hpa2
                    have hhas : mapHas Kb kvs = b := by rw [hKb]; exact hml.out.hb
                    have hG7 : (Gb.toList == ([66, 79, 68, 89, 61, 55, 66, 73, 84] : List UInt8)) = true ∨ ((Gb.toList == ([66, 79, 68, 89, 61, 55, 66, 73, 84] : List UInt8)) = false ∧ (Gb.toList == ([66, 79, 68, 89, 61, 56, 66, 73, 84, 77, 73, 77, 69] : List UInt8)) = true) := by
                      rw [hGt]
                      rcases hbody with e | e <;> rw [e]
                      · exact .inl (by decide)
                      · exact .inr ⟨by decide, by decide⟩
                    cases b with
                    | true =>
                      have hON : O = none := by rw [← hst]; rfl
                      subst hON
                      clear hpa hpa2 hbody o1 o2 hst hcut hGt hKt2 hG7 hK2 hV2 hKb
                      go_wp2_with fail
                      refine (HW.out _).mono ?_
                      rintro e w2 ⟨rfl, hb2⟩
                      have hml := Lib.hid (hml.out.later hb2)
                      have u8 := (HC.out.1.below hml.out.mb.bel).u8
                      clear hb2
                      go_wp2_with fail
                      refine (HG.out _ u8).mono ?_
                      rintro e w3 ⟨rfl, hb3⟩
                      have hml := Lib.hid (hml.out.later hb3)
                      obtain ⟨m3, hm3⟩ := (HC.out.1.below hml.out.mb.bel).max
                      clear hb3 u8
                      go_wp2_with fail
                      refine (HCU.out _ m3 hm3).mono ?_
                      rintro e w4 ⟨rfl, n4, rfl⟩
                      have hml := Lib.hid (hml.out.later (below_drawN _ n4))
                      clear hm3
                      generalize World.drewN _ n4 = w4 at *
                      obtain ⟨ev, hv, hev⟩ := (HC.out.1.below hml.out.mb.bel).err
                      go_wp2_with fail
                      refine (HPA.out _ ev hv hev).mono ?_
                      rintro e w5 ⟨rfl, hb5⟩
                      have hml := Lib.hid (hml.out.later hb5)
                      have hlk := hml.out.look Kb
                      clear hb5 hv hev
                      rw [hhas] at hlk
                      go_wp2_with fail
                      have HR := Lib.hid (reply_at 501 (by decide) (by decide) (HC.out.1.below hml.out.mb.bel))
                      refine HR.out.mono ?_
                      rintro e w9 ⟨rfl, hb9⟩
                      go_wp2
                      go_ret
                      exact ⟨rfl, (Fr.of_below hml.out.mb.bel).then hb9, (H.out.later hml.out.mb.bel).later hb9⟩
                    | false =>
                      have hst2 : optsW k' y2 s true n = O := hst
                      have HN := Lib.hid (And.intro hst2 hKb)
                      clear hpa hpa2 hbody o1 o2 hst hst2 hcut hGt hKt2 hK2 hV2 hKb
                      rcases hG7 with q7 | ⟨q7, q8⟩
                      · skip
                        go_wp2_with fail
                        refine (HW.out _).mono ?_
                        rintro e w2 ⟨rfl, hb2⟩
                        have hml := Lib.hid (hml.out.later hb2)
                        have u8 := (HC.out.1.below hml.out.mb.bel).u8
                        clear hb2
                        go_wp2_with fail
                        refine (HG.out _ u8).mono ?_
                        rintro e w3 ⟨rfl, hb3⟩
                        have hml := Lib.hid (hml.out.later hb3)
                        obtain ⟨m3, hm3⟩ := (HC.out.1.below hml.out.mb.bel).max
                        clear hb3 u8
                        go_wp2_with fail
                        refine (HCU.out _ m3 hm3).mono ?_
                        rintro e w4 ⟨rfl, n4, rfl⟩
                        have hml := Lib.hid (hml.out.later (below_drawN _ n4))
                        clear hm3
                        generalize World.drewN _ n4 = w4 at *
                        obtain ⟨ev, hv, hev⟩ := (HC.out.1.below hml.out.mb.bel).err
                        go_wp2_with fail
                        refine (HPA.out _ ev hv hev).mono ?_
                        rintro e w5 ⟨rfl, hb5⟩
                        have hml := Lib.hid (hml.out.later hb5)
                        have hlk := hml.out.look Kb
                        clear hb5 hv hev
                        rw [hhas] at hlk
                        go_wp2_with (refine wpList_update_map _ rfl (.tmp 97) (.tmp 98) _ _ rfl _ _ Tryz.underlying105 Tryz.underlying9 _ _ rfl hml.out.map _ rfl hhas ?_; intro w6 hm6 hg6; have hml := Lib.hid (hml.out.put Kb hm6 hg6); clear hm6 hg6)
                        go_roundw
                        case rel =>
                          have h6 := hml.out
                          rw [HN.out.2, show (szB == bdB) = false by decide, show (bdB == bdB) = true by decide, Bool.or_false, Bool.or_true] at h6
                          exact ⟨y2, s, true, n, k', _, by rw [HRE.out.1], rfl, Lib.hid h6, by have := HK.out; omega, hn, Lib.hid ⟨by have := HK.out; omega, HN.out.1⟩⟩
                        case measure =>
                          rw [hkn]
                          show R2.size < _
                          have := HS2.out
                          have := HK.out
                          omega
                      · skip
                        go_wp2_with fail
                        refine (HW.out _).mono ?_
                        rintro e w2 ⟨rfl, hb2⟩
                        have hml := Lib.hid (hml.out.later hb2)
                        have u8 := (HC.out.1.below hml.out.mb.bel).u8
                        clear hb2
                        go_wp2_with fail
                        refine (HG.out _ u8).mono ?_
                        rintro e w3 ⟨rfl, hb3⟩
                        have hml := Lib.hid (hml.out.later hb3)
                        obtain ⟨m3, hm3⟩ := (HC.out.1.below hml.out.mb.bel).max
                        clear hb3 u8
                        go_wp2_with fail
                        refine (HCU.out _ m3 hm3).mono ?_
                        rintro e w4 ⟨rfl, n4, rfl⟩
                        have hml := Lib.hid (hml.out.later (below_drawN _ n4))
                        clear hm3
                        generalize World.drewN _ n4 = w4 at *
                        obtain ⟨ev, hv, hev⟩ := (HC.out.1.below hml.out.mb.bel).err
                        go_wp2_with fail
                        refine (HPA.out _ ev hv hev).mono ?_
                        rintro e w5 ⟨rfl, hb5⟩
                        have hml := Lib.hid (hml.out.later hb5)
                        have hlk := hml.out.look Kb
                        clear hb5 hv hev
                        rw [hhas] at hlk
                        go_wp2_with (refine wpList_update_map _ rfl (.tmp 97) (.tmp 98) _ _ rfl _ _ Tryz.underlying105 Tryz.underlying9 _ _ rfl hml.out.map _ rfl hhas ?_; intro w6 hm6 hg6; have hml := Lib.hid (hml.out.put Kb hm6 hg6); clear hm6 hg6)
                        go_roundw
                        case rel =>
                          have h6 := hml.out
                          rw [HN.out.2, show (szB == bdB) = false by decide, show (bdB == bdB) = true by decide, Bool.or_false, Bool.or_true] at h6
                          exact ⟨y2, s, true, n, k', _, by rw [HRE.out.1], rfl, Lib.hid h6, by have := HK.out; omega, hn, Lib.hid ⟨by have := HK.out; omega, HN.out.1⟩⟩
                        case measure =>
                          rw [hkn]
                          show R2.size < _
                          have := HS2.out
                          have := HK.out
                          omega
                  · have qB7 : (Gb.toList == ([66, 79, 68, 89, 61, 55, 66, 73, 84] : List UInt8)) = false := by
                      rw [hGt]; exact beq_eq_false_iff_ne.2 fun e => hbody (.inl e)
                    have qB8 : (Gb.toList == ([66, 79, 68, 89, 61, 56, 66, 73, 84, 77, 73, 77, 69] : List UInt8)) = false := by
                      rw [hGt]; exact beq_eq_false_iff_ne.2 fun e => hbody (.inr e)
                    by_cases hKn : K = sizeN
                    · have qK : (Kb.toList == ([83, 73, 90, 69] : List UInt8)) = true := by rw [hKt2, hKn]; decide
                      have hKb : Kb = szB := by rw [← bt_back Kb, hK2, hKn]; rfl
                      have hhas : mapHas Kb kvs = s := by rw [hKb]; exact hml.out.hs
                      cases hv : numV V with
                      | none =>
                        have ho := opt_none p K V f hbody hcut.symm (by rw [hv]; rintro ⟨-, h⟩; exact h rfl)
                        rw [ho] at hst
                        have hON : O = none := hst.symm
                        subst hON
                        simp only [hv] at hpa
                        have HPA := Lib.hid hpa
                        cases s with
                        | true =>
                          clear hpa hbody hst hcut hGt hKt2 hK2 hV2 hKb hKn ho hv
                          go_wp2_with fail
                          refine (HW.out _).mono ?_
                          rintro e w2 ⟨rfl, hb2⟩
                          have hml := Lib.hid (hml.out.later hb2)
                          have u8 := (HC.out.1.below hml.out.mb.bel).u8
                          clear hb2
                          go_wp2_with fail
                          refine (HG.out _ u8).mono ?_
                          rintro e w3 ⟨rfl, hb3⟩
                          have hml := Lib.hid (hml.out.later hb3)
                          obtain ⟨m3, hm3⟩ := (HC.out.1.below hml.out.mb.bel).max
                          clear hb3 u8
                          go_wp2_with fail
                          refine (HCU.out _ m3 hm3).mono ?_
                          rintro e w4 ⟨rfl, n4, rfl⟩
                          have hml := Lib.hid (hml.out.later (below_drawN _ n4))
                          clear hm3
                          generalize World.drewN _ n4 = w4 at *
                          obtain ⟨ev, hv, hev⟩ := (HC.out.1.below hml.out.mb.bel).err
                          go_wp2_with fail
                          refine (HPA.out _ ev hv hev).mono ?_
                          rintro e w5 ⟨rfl, hb5⟩
                          have hml := Lib.hid (hml.out.later hb5)
                          have hlk := hml.out.look Kb
                          clear hb5 hv hev
                          rw [hhas] at hlk
                          go_wp2_with fail
                          have HR := Lib.hid (reply_at 501 (by decide) (by decide) (HC.out.1.below hml.out.mb.bel))
                          refine HR.out.mono ?_
                          rintro e w9 ⟨rfl, hb9⟩
                          go_wp2
                          go_ret
                          exact ⟨rfl, (Fr.of_below hml.out.mb.bel).then hb9, (H.out.later hml.out.mb.bel).later hb9⟩
                        | false =>
                          clear hpa hbody hst hcut hGt hKt2 hK2 hV2 hKb hKn ho hv
                          go_wp2_with fail
                          refine (HW.out _).mono ?_
                          rintro e w2 ⟨rfl, hb2⟩
                          have hml := Lib.hid (hml.out.later hb2)
                          have u8 := (HC.out.1.below hml.out.mb.bel).u8
                          clear hb2
                          go_wp2_with fail
                          refine (HG.out _ u8).mono ?_
                          rintro e w3 ⟨rfl, hb3⟩
                          have hml := Lib.hid (hml.out.later hb3)
                          obtain ⟨m3, hm3⟩ := (HC.out.1.below hml.out.mb.bel).max
                          clear hb3 u8
                          go_wp2_with fail
                          refine (HCU.out _ m3 hm3).mono ?_
                          rintro e w4 ⟨rfl, n4, rfl⟩
                          have hml := Lib.hid (hml.out.later (below_drawN _ n4))
                          clear hm3
                          generalize World.drewN _ n4 = w4 at *
                          obtain ⟨ev, hv, hev⟩ := (HC.out.1.below hml.out.mb.bel).err
                          go_wp2_with fail
                          refine (HPA.out _ ev hv hev).mono ?_
                          rintro e w5 ⟨rfl, hb5⟩
                          have hml := Lib.hid (hml.out.later hb5)
                          have hlk := hml.out.look Kb
                          clear hb5 hv hev
                          rw [hhas] at hlk
                          go_wp2_with fail
                          have HR := Lib.hid (reply_at 501 (by decide) (by decide) (HC.out.1.below hml.out.mb.bel))
                          refine HR.out.mono ?_
                          rintro e w9 ⟨rfl, hb9⟩
                          go_wp2
                          go_ret
                          exact ⟨rfl, (Fr.of_below hml.out.mb.bel).then hb9, (H.out.later hml.out.mb.bel).later hb9⟩
                      | some v =>
                        have ho := opt_size p K V f v hbody hcut.symm hKn hv
                        rw [ho] at hst
                        have hvz := numV_le hv
                        simp only [hv] at hpa
                        have HPA := Lib.hid hpa
                        cases s with
                        | true =>
                          have hON : O = none := by rw [← hst]; rfl
                          subst hON
                          clear hpa hbody hst hcut hGt hKt2 hK2 hV2 hKb hKn ho hv
                          go_wp2_with fail
                          refine (HW.out _).mono ?_
                          rintro e w2 ⟨rfl, hb2⟩
                          have hml := Lib.hid (hml.out.later hb2)
                          have u8 := (HC.out.1.below hml.out.mb.bel).u8
                          clear hb2
                          go_wp2_with fail
                          refine (HG.out _ u8).mono ?_
                          rintro e w3 ⟨rfl, hb3⟩
                          have hml := Lib.hid (hml.out.later hb3)
                          obtain ⟨m3, hm3⟩ := (HC.out.1.below hml.out.mb.bel).max
                          clear hb3 u8
                          go_wp2_with fail
                          refine (HCU.out _ m3 hm3).mono ?_
                          rintro e w4 ⟨rfl, n4, rfl⟩
                          have hml := Lib.hid (hml.out.later (below_drawN _ n4))
                          clear hm3
                          generalize World.drewN _ n4 = w4 at *
                          obtain ⟨ev, hv, hev⟩ := (HC.out.1.below hml.out.mb.bel).err
                          go_wp2_with fail
                          refine (HPA.out _ ev hv hev).mono ?_
                          rintro e w5 ⟨rfl, hb5⟩
                          have hml := Lib.hid (hml.out.later hb5)
                          have hlk := hml.out.look Kb
                          clear hb5 hv hev
                          rw [hhas] at hlk
                          go_wp2_with fail
                          have HR := Lib.hid (reply_at 501 (by decide) (by decide) (HC.out.1.below hml.out.mb.bel))
                          refine HR.out.mono ?_
                          rintro e w9 ⟨rfl, hb9⟩
                          go_wp2
                          go_ret
                          exact ⟨rfl, (Fr.of_below hml.out.mb.bel).then hb9, (H.out.later hml.out.mb.bel).later hb9⟩
                        | false =>
                          have hst2 : optsW k' y2 true b v = O := hst
                          have HN := Lib.hid (And.intro hst2 hKb)
                          clear hpa hbody hst hst2 hcut hGt hKt2 hK2 hV2 hKb hKn ho hv
                          go_wp2_with fail
                          refine (HW.out _).mono ?_
                          rintro e w2 ⟨rfl, hb2⟩
                          have hml := Lib.hid (hml.out.later hb2)
                          have u8 := (HC.out.1.below hml.out.mb.bel).u8
                          clear hb2
                          go_wp2_with fail
                          refine (HG.out _ u8).mono ?_
                          rintro e w3 ⟨rfl, hb3⟩
                          have hml := Lib.hid (hml.out.later hb3)
                          obtain ⟨m3, hm3⟩ := (HC.out.1.below hml.out.mb.bel).max
                          clear hb3 u8
                          go_wp2_with fail
                          refine (HCU.out _ m3 hm3).mono ?_
                          rintro e w4 ⟨rfl, n4, rfl⟩
                          have hml := Lib.hid (hml.out.later (below_drawN _ n4))
                          clear hm3
                          generalize World.drewN _ n4 = w4 at *
                          obtain ⟨ev, hv, hev⟩ := (HC.out.1.below hml.out.mb.bel).err
                          go_wp2_with fail
                          refine (HPA.out _ ev hv hev).mono ?_
                          rintro e w5 ⟨rfl, hb5⟩
                          have hml := Lib.hid (hml.out.later hb5)
                          have hlk := hml.out.look Kb
                          clear hb5 hv hev
                          rw [hhas] at hlk
                          go_wp2_with (refine wpList_update_map _ rfl (.tmp 97) (.tmp 98) _ _ rfl _ _ Tryz.underlying105 Tryz.underlying9 _ _ rfl hml.out.map _ rfl hhas ?_; intro w6 hm6 hg6; have hml := Lib.hid (hml.out.put Kb hm6 hg6); clear hm6 hg6)
                          go_roundw
                          case rel =>
                            have h6 := hml.out
                            rw [HN.out.2, show (szB == szB) = true by decide, show (bdB == szB) = false by decide, Bool.or_false, Bool.or_true] at h6
                            exact ⟨y2, true, b, v, k', _, by rw [HRE.out.1], rfl, Lib.hid h6, by have := HK.out; omega, hvz, Lib.hid ⟨by have := HK.out; omega, HN.out.1⟩⟩
                          case measure =>
                            rw [hkn]
                            show R2.size < _
                            have := HS2.out
                            have := HK.out
                            omega
                    · have qK : (Kb.toList == ([83, 73, 90, 69] : List UInt8)) = false := by rw [hKt2]; exact beq_eq_false_iff_ne.2 hKn
                      have ho := opt_none p K V f hbody hcut.symm (fun h => hKn h.1)
                      rw [ho] at hst
                      have hON : O = none := hst.symm
                      subst hON
                      have hpa2 : ∃ N : Int, ∃ F : Bool, ∀ (W : World) (ev : Value), W.cell? ⟨2, 0, none⟩ = some ev → (ev = .nilIface ∨ ∃ te pe, ev = .iface te pe) → Calls Tryz.prog 26 #[.string Vb, .int .i64 0, .int .i64 9223372036854775807] W fun e w' => e = .returned (.tuple #[.int .i64 N, .bool F]) ∧ Below W.heap.size W w' := ⟨_, _, hpa⟩
                      obtain ⟨N, F, hpa2⟩ := hpa2
                      have HPA := Lib.hid hpa2
                      cases hhas : mapHas Kb kvs with
                      | true =>
                        clear hpa hpa2 hbody hst hcut hGt hKt2 hK2 hV2 hKn ho
                        go_wp2_with fail
                        refine (HW.out _).mono ?_
                        rintro e w2 ⟨rfl, hb2⟩
                        have hml := Lib.hid (hml.out.later hb2)
                        have u8 := (HC.out.1.below hml.out.mb.bel).u8
                        clear hb2
                        go_wp2_with fail
                        refine (HG.out _ u8).mono ?_
                        rintro e w3 ⟨rfl, hb3⟩
                        have hml := Lib.hid (hml.out.later hb3)
                        obtain ⟨m3, hm3⟩ := (HC.out.1.below hml.out.mb.bel).max
                        clear hb3 u8
                        go_wp2_with fail
                        refine (HCU.out _ m3 hm3).mono ?_
                        rintro e w4 ⟨rfl, n4, rfl⟩
                        have hml := Lib.hid (hml.out.later (below_drawN _ n4))
                        clear hm3
                        generalize World.drewN _ n4 = w4 at *
                        obtain ⟨ev, hv, hev⟩ := (HC.out.1.below hml.out.mb.bel).err
                        go_wp2_with fail
                        refine (HPA.out _ ev hv hev).mono ?_
                        rintro e w5 ⟨rfl, hb5⟩
                        have hml := Lib.hid (hml.out.later hb5)
                        have hlk := hml.out.look Kb
                        clear hb5 hv hev
                        rw [hhas] at hlk
                        go_wp2_with fail
                        have HR := Lib.hid (reply_at 501 (by decide) (by decide) (HC.out.1.below hml.out.mb.bel))
                        refine HR.out.mono ?_
                        rintro e w9 ⟨rfl, hb9⟩
                        go_wp2
                        go_ret
                        exact ⟨rfl, (Fr.of_below hml.out.mb.bel).then hb9, (H.out.later hml.out.mb.bel).later hb9⟩
                      | false =>
                        clear hpa hpa2 hbody hst hcut hGt hKt2 hK2 hV2 hKn ho
                        go_wp2_with fail
                        refine (HW.out _).mono ?_
                        rintro e w2 ⟨rfl, hb2⟩
                        have hml := Lib.hid (hml.out.later hb2)
                        have u8 := (HC.out.1.below hml.out.mb.bel).u8
                        clear hb2
                        go_wp2_with fail
                        refine (HG.out _ u8).mono ?_
                        rintro e w3 ⟨rfl, hb3⟩
                        have hml := Lib.hid (hml.out.later hb3)
                        obtain ⟨m3, hm3⟩ := (HC.out.1.below hml.out.mb.bel).max
                        clear hb3 u8
                        go_wp2_with fail
                        refine (HCU.out _ m3 hm3).mono ?_
                        rintro e w4 ⟨rfl, n4, rfl⟩
                        have hml := Lib.hid (hml.out.later (below_drawN _ n4))
                        clear hm3
                        generalize World.drewN _ n4 = w4 at *
                        obtain ⟨ev, hv, hev⟩ := (HC.out.1.below hml.out.mb.bel).err
                        go_wp2_with fail
                        refine (HPA.out _ ev hv hev).mono ?_
                        rintro e w5 ⟨rfl, hb5⟩
                        have hml := Lib.hid (hml.out.later hb5)
                        have hlk := hml.out.look Kb
                        clear hb5 hv hev
                        rw [hhas] at hlk
                        go_wp2_with fail
                        have HR := Lib.hid (reply_at 501 (by decide) (by decide) (HC.out.1.below hml.out.mb.bel))
                        refine HR.out.mono ?_
                        rintro e w9 ⟨rfl, hb9⟩
                        go_wp2
                        go_ret
                        exact ⟨rfl, (Fr.of_below hml.out.mb.bel).then hb9, (H.out.later hml.out.mb.bel).later hb9⟩
        · have qa : (bt a).toList.isEmpty = false := str_neq (by rw [haa]; exact List.length_pos_iff.2 ha)
          have hae : a.isEmpty = false := by
            cases a with
            | nil => exact absurd rfl ha
            | cons c r => rfl
          cases hmw : mayW a with
          | false =>
            rw [hmw] at hM
            have HM := Lib.hid hM
            rw [if_pos (by rw [hae]; rfl)]
            obtain ⟨Y, hYE⟩ : ∃ Y, Y = bt y := ⟨_, rfl⟩
            rw [← hYE] at HP
            clear hM hf h hC hG hP hp hm hKt hP' hpl hya haa la ly hmw hYE hae ha
            go_enter Tryz.func61, Tryz.ntmps61
            go_wp2_with fail
            refine HP.out.mono ?_
            rintro e w1 ⟨rfl, hb1⟩
            have tb := Lib.hid (MB.start (a := a) hb1)
            have cb : (w1.alloc (.cells #[.string (bt a)] 9)).cell? ⟨w1.heap.size, 0, none⟩ = some (.string (bt a)) := tb.out.cell
            clear hb1
            go_wp2_with fail
            refine (HM.out _).mono ?_
            rintro e w2 ⟨rfl, rfl⟩
            have HR := Lib.hid (reply_at 501 (by decide) (by decide) (HC.out.1.below tb.out.bel))
            go_wp2_with fail
            refine HR.out.mono ?_
            rintro e w9 ⟨rfl, hb9⟩
            go_wp2
            go_ret
            exact ⟨rfl, (Fr.of_below tb.out.bel).then hb9, (H.out.later tb.out.bel).later hb9⟩
          | true =>
            rw [hmw] at hM
            have HM := Lib.hid hM
            have e1 : bt ([] : List UInt8) = ⟨#[]⟩ := rfl
            cases y with
            | nil =>
              rw [if_neg (by rw [hae]; decide)]
              rw [e1] at HP
              clear hM hf h hC hG hP hp hm hKt hP' hpl hya haa e1 la ly hmw hae ha
              go_enter Tryz.func61, Tryz.ntmps61
              go_wp2_with fail
              refine HP.out.mono ?_
              rintro e w1 ⟨rfl, hb1⟩
              have tb := Lib.hid (MB.start (a := a) hb1)
              have cb : (w1.alloc (.cells #[.string (bt a)] 9)).cell? ⟨w1.heap.size, 0, none⟩ = some (.string (bt a)) := tb.out.cell
              clear hb1
              go_wp2_with fail
              refine (HM.out _).mono ?_
              rintro e w2 ⟨rfl, rfl⟩
              have hmm := @run_makeMap Tryz.prog
              go_wp2
              clear hmm cb
              go_loopw [1, 7] (fun rv nv wr => ∃ (y' : List UInt8) (s b : Bool) (n k : Nat) (kvs : List (ByteArray × Value)), rv = .string (bt y') ∧ nv = .int .i64 n ∧ Hid (ML w wr w1.heap.size (w1.heap.size + 1) a kvs s b) ∧ y'.length ≤ 100000 ∧ n ≤ 9223372036854775807 ∧ Hid (y'.length ≤ k ∧ optsW k y' s b n = O)) (fun rv _ _ => szOf rv)
              case atStart => exact ⟨([] : List UInt8), false, false, 0, _, [], by first | rfl | (rw [HYE.out.1]), rfl, Lib.hid (by have h := ML.start tb.out; first | exact h | (rw [show (w1.alloc (.cells #[.string (bt a)] 9)).heap.size = w1.heap.size + 1 by simp] at h; exact h)), by have := hyl; omega, by decide, HO.out.2, HO.out.1⟩
              case round =>
                obtain ⟨y', s, b, n, k, kvs, rfl, rfl, hml, hy1, hn, hrel⟩ := hrel
                have d0 := (H.out.later hml.out.mb.bel).cells.1.1
                have d4 := (H.out.later hml.out.mb.bel).cells.1.2.2.2.2.1
                have g4 := (H.out.later hml.out.mb.bel).cells.2 4
                cases y' with
                | nil =>
                  have hOe : O = some n := by rw [← hrel.out.2]; cases k <;> rfl
                  subst hOe
                  have e0 : bt ([] : List UInt8) = ⟨#[]⟩ := rfl
                  rw [e0]
                  clear hrel HO
                  by_cases hmn : most < n
                  · have q1 : decide ((most : Int) < (n : Int)) = true := decide_eq_true (by omega)
                    have q2 : decide (most < n) = true := decide_eq_true hmn
                    have hE : Hid (mailE most a (some n) = (552, none) ∧ 0 ≤ n) := ⟨if_pos hmn, Nat.zero_le _⟩
                    clear hmn e0 hy1
                    have HR := Lib.hid (reply_at 552 (by decide) (by decide) (HC.out.1.below hml.out.mb.bel))
                    go_wp2_with fail
                    refine HR.out.mono ?_
                    rintro e w9 ⟨rfl, hb9⟩
                    go_wp2
                    go_ret
                    rw [hE.out.1]
                    exact ⟨rfl, (Fr.of_below hml.out.mb.bel).then hb9, (H.out.later hml.out.mb.bel).later hb9⟩
                  · have q1 : decide ((most : Int) < (n : Int)) = false := decide_eq_false (by omega)
                    have q2 : decide (most < n) = false := decide_eq_false hmn
                    have hE : Hid (mailE most a (some n) = (250, some a) ∧ 0 ≤ n) := ⟨if_neg hmn, Nat.zero_le _⟩
                    have hF := (Fr.of_below (X := Bk sb) hml.out.mb.bel).setCell (b := sb) (o := 4) (by rfl) (.pointer (some ⟨w1.heap.size, 0, none⟩))
                    have HF := Lib.hid hF
                    have HCF := Lib.hid (HC.out.1.own HC.out.2 hF)
                    clear hmn e0 hF hy1
                    have HR := Lib.hid (reply_at 250 (by decide) (by decide) HCF.out)
                    go_wp2_with fail
                    refine HR.out.mono ?_
                    rintro e w9 ⟨rfl, hb9⟩
                    go_wp2
                    go_ret
                    rw [hE.out.1]
                    have hbx := hml.out.mb.box
                    have hne : w1.heap.size ≠ sb := by have := hml.out.mb.hbx; have := H.out.lt; omega
                    have hb2 := (Below.heap_setCell wr ⟨sb, 4, none⟩ (.pointer (some ⟨w1.heap.size, 0, none⟩)) w1.heap.size hne).trans hbx
                    exact ⟨rfl, HF.out.then hb9, w1.heap.size, hml.out.mb.hbx, ((H.out.later hml.out.mb.bel).set4 _).later hb9, (hb9.block _ (lt_of_block hb2)).trans hb2⟩
                | cons c l =>
                  have hne : (bt (c :: l)).toList.isEmpty = false := str_neq (by show 0 < (c :: l).toArray.size; simp)
                  have hsz : (bt (c :: l)).size = l.length + 1 := by show (c :: l).toArray.size = _; simp
                  have hle : l.length + 1 ≤ 100000 := hy1
                  obtain ⟨k', rfl⟩ : ∃ k', k = k' + 1 := by
                    have := hrel.out.1
                    rw [List.length_cons] at this
                    exact ⟨k - 1, by omega⟩
                  have hw := fun W => wordS_any (bt (c :: l)) W (by omega)
                  rw [bt_data] at hw
                  obtain ⟨z1, z2⟩ := wordW_len (c :: l) (by simp)
                  rw [List.length_cons] at z1 z2
                  have hst := hrel.out.2
                  have hk := hrel.out.1
                  rw [List.length_cons] at hk
                  rw [optsW_cons] at hst
                  obtain ⟨p, hp0⟩ : ∃ p, p = (wordW (c :: l)).1 := ⟨_, rfl⟩
                  obtain ⟨y2, hy20⟩ : ∃ y2, y2 = (wordW (c :: l)).2 := ⟨_, rfl⟩
                  unfold WordIs at hw
                  rw [← hp0, ← hy20] at hw
                  rw [← hp0, ← hy20] at hst
                  rw [← hp0] at z1
                  rw [← hy20] at z2
                  have hpz : (bt p).size = p.length := by show p.toArray.size = _; simp
                  have hg := fun W hT => great_any (bt p) W (by omega) hT
                  rw [bt_data] at hg
                  have hY2 : (bt y2).size = y2.length := by show y2.toArray.size = _; simp
                  have hgl : (Lib.mapD upR p).length ≤ 1000000 := by have := mapD_len p; omega
                  obtain ⟨Gb, hG1, hG2, hG3⟩ := bt_ex (Lib.mapD upR p)
                  have hG4 : (⟨(Lib.mapD upR p).toArray⟩ : ByteArray) = Gb := hG1.symm
                  rw [hG4] at hg
                  have hcu := fun W m hm => Tryz.strings_Cut Gb ⟨#[61]⟩ m W (by omega) hm
                  rw [hG2] at hcu
                  obtain ⟨⟨K, V, f⟩, hcut⟩ : ∃ x, x = Lib.cut (Lib.mapD upR p) [61] := ⟨_, rfl⟩
                  have e61 : (⟨#[61]⟩ : ByteArray).data.toList = [61] := rfl
                  rw [e61, ← hcut] at hcu
                  obtain ⟨Kb, hK1, hK2, hK3⟩ := bt_ex K
                  obtain ⟨Vb, hV1, hV2, hV3⟩ := bt_ex V
                  have hK4 : (⟨K.toArray⟩ : ByteArray) = Kb := hK1.symm
                  have hV4 : (⟨V.toArray⟩ : ByteArray) = Vb := hV1.symm
                  simp only [hK4, hV4] at hcu
                  obtain ⟨l1, l2⟩ := cut_len (Lib.mapD upR p) 61
                  rw [← hcut] at l1 l2
                  simp only at l1 l2
                  have hpa := fun W ev hv hev => parse_any Vb 0 9223372036854775807 W (by omega) ev hv hev
                  rw [hV2, numV_parse] at hpa
                  obtain ⟨R2, hR2⟩ : ∃ R2, R2 = bt y2 := ⟨_, rfl⟩
                  rw [← hR2] at hw hY2
                  have HRE := Lib.hid (And.intro hR2 (Nat.le_refl 0))
                  clear hR2
                  have HW := Lib.hid hw
                  have HG := Lib.hid hg
                  have HCU := Lib.hid hcu
                  have HK := Lib.hid (And.intro hk (And.intro z2 hle))
                  have HS2 := Lib.hid (show (bt (c :: l)).size = l.length + 1 ∧ R2.size = y2.length from ⟨hsz, hY2⟩)
                  have hGt : Gb.toList = Lib.mapD upR p := by rw [Lib.toList_data, hG2]
                  have hKt2 : Kb.toList = K := by rw [Lib.toList_data, hK2]
                  generalize bt (c :: l) = R0 at *
                  generalize bt p = P0 at *
                  have hkn : szOf (.string R0) = l.length + 1 := HS2.out.1
                  clear hw hg hcu hk z1 z2 hle hsz hY2 hp0 hy20 hgl hG1 hG3 hG4 e61 hK1 hK3 hV1 hV3 hK4 hV4 l1 l2 hpz hy1 hyl HO hG2 hrel
                  by_cases hbody : Lib.mapD upR p = body7 ∨ Lib.mapD upR p = body8
                  · obtain ⟨o1, o2⟩ := opt_body p hbody
                    rw [← hcut] at o2
                    have o2 : K = bodyN := o2
                    rw [o1] at hst
                    have hKb : Kb = bdB := by rw [← bt_back Kb, hK2, o2]; rfl
                    have qK : (Kb.toList == ([83, 73, 90, 69] : List UInt8)) = false := by rw [hKt2, o2]; decide
                    have hpa2 : ∃ N : Int, ∃ F : Bool, ∀ (W : World) (ev : Value), W.cell? ⟨2, 0, none⟩ = some ev → (ev = .nilIface ∨ ∃ te pe, ev = .iface te pe) → Calls Tryz.prog 26 #[.string Vb, .int .i64 0, .int .i64 9223372036854775807] W fun e w' => e = .returned (.tuple #[.int .i64 N, .bool F]) ∧ Below W.heap.size W w' := ⟨_, _, hpa⟩
                    obtain ⟨N, F, hpa2⟩ := hpa2
                    have HPA := Lib.hid hpa2
                    have hhas : mapHas Kb kvs = b := by rw [hKb]; exact hml.out.hb
                    have hG7 : (Gb.toList == ([66, 79, 68, 89, 61, 55, 66, 73, 84] : List UInt8)) = true ∨ ((Gb.toList == ([66, 79, 68, 89, 61, 55, 66, 73, 84] : List UInt8)) = false ∧ (Gb.toList == ([66, 79, 68, 89, 61, 56, 66, 73, 84, 77, 73, 77, 69] : List UInt8)) = true) := by
                      rw [hGt]
                      rcases hbody with e | e <;> rw [e]
                      · exact .inl (by decide)
                      · exact .inr ⟨by decide, by decide⟩
                    cases b with
                    | true =>
                      have hON : O = none := by rw [← hst]; rfl
                      subst hON
                      clear hpa hpa2 hbody o1 o2 hst hcut hGt hKt2 hG7 hK2 hV2 hKb
                      go_wp2_with fail
                      refine (HW.out _).mono ?_
                      rintro e w2 ⟨rfl, hb2⟩
                      have hml := Lib.hid (hml.out.later hb2)
                      have u8 := (HC.out.1.below hml.out.mb.bel).u8
                      clear hb2
                      go_wp2_with fail
                      refine (HG.out _ u8).mono ?_
                      rintro e w3 ⟨rfl, hb3⟩
                      have hml := Lib.hid (hml.out.later hb3)
                      obtain ⟨m3, hm3⟩ := (HC.out.1.below hml.out.mb.bel).max
                      clear hb3 u8
                      go_wp2_with fail
                      refine (HCU.out _ m3 hm3).mono ?_
                      rintro e w4 ⟨rfl, n4, rfl⟩
                      have hml := Lib.hid (hml.out.later (below_drawN _ n4))
                      clear hm3
                      generalize World.drewN _ n4 = w4 at *
                      obtain ⟨ev, hv, hev⟩ := (HC.out.1.below hml.out.mb.bel).err
                      go_wp2_with fail
                      refine (HPA.out _ ev hv hev).mono ?_
                      rintro e w5 ⟨rfl, hb5⟩
                      have hml := Lib.hid (hml.out.later hb5)
                      have hlk := hml.out.look Kb
                      clear hb5 hv hev
                      rw [hhas] at hlk
                      go_wp2_with fail
                      have HR := Lib.hid (reply_at 501 (by decide) (by decide) (HC.out.1.below hml.out.mb.bel))
                      refine HR.out.mono ?_
                      rintro e w9 ⟨rfl, hb9⟩
                      go_wp2
                      go_ret
                      exact ⟨rfl, (Fr.of_below hml.out.mb.bel).then hb9, (H.out.later hml.out.mb.bel).later hb9⟩
                    | false =>
                      have hst2 : optsW k' y2 s true n = O := hst
                      have HN := Lib.hid (And.intro hst2 hKb)
                      clear hpa hpa2 hbody o1 o2 hst hst2 hcut hGt hKt2 hK2 hV2 hKb
                      rcases hG7 with q7 | ⟨q7, q8⟩
                      · skip
                        go_wp2_with fail
                        refine (HW.out _).mono ?_
                        rintro e w2 ⟨rfl, hb2⟩
                        have hml := Lib.hid (hml.out.later hb2)
                        have u8 := (HC.out.1.below hml.out.mb.bel).u8
                        clear hb2
                        go_wp2_with fail
                        refine (HG.out _ u8).mono ?_
                        rintro e w3 ⟨rfl, hb3⟩
                        have hml := Lib.hid (hml.out.later hb3)
                        obtain ⟨m3, hm3⟩ := (HC.out.1.below hml.out.mb.bel).max
                        clear hb3 u8
                        go_wp2_with fail
                        refine (HCU.out _ m3 hm3).mono ?_
                        rintro e w4 ⟨rfl, n4, rfl⟩
                        have hml := Lib.hid (hml.out.later (below_drawN _ n4))
                        clear hm3
                        generalize World.drewN _ n4 = w4 at *
                        obtain ⟨ev, hv, hev⟩ := (HC.out.1.below hml.out.mb.bel).err
                        go_wp2_with fail
                        refine (HPA.out _ ev hv hev).mono ?_
                        rintro e w5 ⟨rfl, hb5⟩
                        have hml := Lib.hid (hml.out.later hb5)
                        have hlk := hml.out.look Kb
                        clear hb5 hv hev
                        rw [hhas] at hlk
                        go_wp2_with (refine wpList_update_map _ rfl (.tmp 97) (.tmp 98) _ _ rfl _ _ Tryz.underlying105 Tryz.underlying9 _ _ rfl hml.out.map _ rfl hhas ?_; intro w6 hm6 hg6; have hml := Lib.hid (hml.out.put Kb hm6 hg6); clear hm6 hg6)
                        go_roundw
                        case rel =>
                          have h6 := hml.out
                          rw [HN.out.2, show (szB == bdB) = false by decide, show (bdB == bdB) = true by decide, Bool.or_false, Bool.or_true] at h6
                          exact ⟨y2, s, true, n, k', _, by rw [HRE.out.1], rfl, Lib.hid h6, by have := HK.out; omega, hn, Lib.hid ⟨by have := HK.out; omega, HN.out.1⟩⟩
                        case measure =>
                          rw [hkn]
                          show R2.size < _
                          have := HS2.out
                          have := HK.out
                          omega
                      · skip
                        go_wp2_with fail
                        refine (HW.out _).mono ?_
                        rintro e w2 ⟨rfl, hb2⟩
                        have hml := Lib.hid (hml.out.later hb2)
                        have u8 := (HC.out.1.below hml.out.mb.bel).u8
                        clear hb2
                        go_wp2_with fail
                        refine (HG.out _ u8).mono ?_
                        rintro e w3 ⟨rfl, hb3⟩
                        have hml := Lib.hid (hml.out.later hb3)
                        obtain ⟨m3, hm3⟩ := (HC.out.1.below hml.out.mb.bel).max
                        clear hb3 u8
                        go_wp2_with fail
                        refine (HCU.out _ m3 hm3).mono ?_
                        rintro e w4 ⟨rfl, n4, rfl⟩
                        have hml := Lib.hid (hml.out.later (below_drawN _ n4))
                        clear hm3
                        generalize World.drewN _ n4 = w4 at *
                        obtain ⟨ev, hv, hev⟩ := (HC.out.1.below hml.out.mb.bel).err
                        go_wp2_with fail
                        refine (HPA.out _ ev hv hev).mono ?_
                        rintro e w5 ⟨rfl, hb5⟩
                        have hml := Lib.hid (hml.out.later hb5)
                        have hlk := hml.out.look Kb
                        clear hb5 hv hev
                        rw [hhas] at hlk
                        go_wp2_with (refine wpList_update_map _ rfl (.tmp 97) (.tmp 98) _ _ rfl _ _ Tryz.underlying105 Tryz.underlying9 _ _ rfl hml.out.map _ rfl hhas ?_; intro w6 hm6 hg6; have hml := Lib.hid (hml.out.put Kb hm6 hg6); clear hm6 hg6)
                        go_roundw
                        case rel =>
                          have h6 := hml.out
                          rw [HN.out.2, show (szB == bdB) = false by decide, show (bdB == bdB) = true by decide, Bool.or_false, Bool.or_true] at h6
                          exact ⟨y2, s, true, n, k', _, by rw [HRE.out.1], rfl, Lib.hid h6, by have := HK.out; omega, hn, Lib.hid ⟨by have := HK.out; omega, HN.out.1⟩⟩
                        case measure =>
                          rw [hkn]
                          show R2.size < _
                          have := HS2.out
                          have := HK.out
                          omega
                  · have qB7 : (Gb.toList == ([66, 79, 68, 89, 61, 55, 66, 73, 84] : List UInt8)) = false := by
                      rw [hGt]; exact beq_eq_false_iff_ne.2 fun e => hbody (.inl e)
                    have qB8 : (Gb.toList == ([66, 79, 68, 89, 61, 56, 66, 73, 84, 77, 73, 77, 69] : List UInt8)) = false := by
                      rw [hGt]; exact beq_eq_false_iff_ne.2 fun e => hbody (.inr e)
                    by_cases hKn : K = sizeN
                    · have qK : (Kb.toList == ([83, 73, 90, 69] : List UInt8)) = true := by rw [hKt2, hKn]; decide
                      have hKb : Kb = szB := by rw [← bt_back Kb, hK2, hKn]; rfl
                      have hhas : mapHas Kb kvs = s := by rw [hKb]; exact hml.out.hs
                      cases hv : numV V with
                      | none =>
                        have ho := opt_none p K V f hbody hcut.symm (by rw [hv]; rintro ⟨-, h⟩; exact h rfl)
                        rw [ho] at hst
                        have hON : O = none := hst.symm
                        subst hON
                        simp only [hv] at hpa
                        have HPA := Lib.hid hpa
                        cases s with
                        | true =>
                          clear hpa hbody hst hcut hGt hKt2 hK2 hV2 hKb hKn ho hv
                          go_wp2_with fail
                          refine (HW.out _).mono ?_
                          rintro e w2 ⟨rfl, hb2⟩
                          have hml := Lib.hid (hml.out.later hb2)
                          have u8 := (HC.out.1.below hml.out.mb.bel).u8
                          clear hb2
                          go_wp2_with fail
                          refine (HG.out _ u8).mono ?_
                          rintro e w3 ⟨rfl, hb3⟩
                          have hml := Lib.hid (hml.out.later hb3)
                          obtain ⟨m3, hm3⟩ := (HC.out.1.below hml.out.mb.bel).max
                          clear hb3 u8
                          go_wp2_with fail
                          refine (HCU.out _ m3 hm3).mono ?_
                          rintro e w4 ⟨rfl, n4, rfl⟩
                          have hml := Lib.hid (hml.out.later (below_drawN _ n4))
                          clear hm3
                          generalize World.drewN _ n4 = w4 at *
                          obtain ⟨ev, hv, hev⟩ := (HC.out.1.below hml.out.mb.bel).err
                          go_wp2_with fail
                          refine (HPA.out _ ev hv hev).mono ?_
                          rintro e w5 ⟨rfl, hb5⟩
                          have hml := Lib.hid (hml.out.later hb5)
                          have hlk := hml.out.look Kb
                          clear hb5 hv hev
                          rw [hhas] at hlk
                          go_wp2_with fail
                          have HR := Lib.hid (reply_at 501 (by decide) (by decide) (HC.out.1.below hml.out.mb.bel))
                          refine HR.out.mono ?_
                          rintro e w9 ⟨rfl, hb9⟩
                          go_wp2
                          go_ret
                          exact ⟨rfl, (Fr.of_below hml.out.mb.bel).then hb9, (H.out.later hml.out.mb.bel).later hb9⟩
                        | false =>
                          clear hpa hbody hst hcut hGt hKt2 hK2 hV2 hKb hKn ho hv
                          go_wp2_with fail
                          refine (HW.out _).mono ?_
                          rintro e w2 ⟨rfl, hb2⟩
                          have hml := Lib.hid (hml.out.later hb2)
                          have u8 := (HC.out.1.below hml.out.mb.bel).u8
                          clear hb2
                          go_wp2_with fail
                          refine (HG.out _ u8).mono ?_
                          rintro e w3 ⟨rfl, hb3⟩
                          have hml := Lib.hid (hml.out.later hb3)
                          obtain ⟨m3, hm3⟩ := (HC.out.1.below hml.out.mb.bel).max
                          clear hb3 u8
                          go_wp2_with fail
                          refine (HCU.out _ m3 hm3).mono ?_
                          rintro e w4 ⟨rfl, n4, rfl⟩
                          have hml := Lib.hid (hml.out.later (below_drawN _ n4))
                          clear hm3
                          generalize World.drewN _ n4 = w4 at *
                          obtain ⟨ev, hv, hev⟩ := (HC.out.1.below hml.out.mb.bel).err
                          go_wp2_with fail
                          refine (HPA.out _ ev hv hev).mono ?_
                          rintro e w5 ⟨rfl, hb5⟩
                          have hml := Lib.hid (hml.out.later hb5)
                          have hlk := hml.out.look Kb
                          clear hb5 hv hev
                          rw [hhas] at hlk
                          go_wp2_with fail
                          have HR := Lib.hid (reply_at 501 (by decide) (by decide) (HC.out.1.below hml.out.mb.bel))
                          refine HR.out.mono ?_
                          rintro e w9 ⟨rfl, hb9⟩
                          go_wp2
                          go_ret
                          exact ⟨rfl, (Fr.of_below hml.out.mb.bel).then hb9, (H.out.later hml.out.mb.bel).later hb9⟩
                      | some v =>
                        have ho := opt_size p K V f v hbody hcut.symm hKn hv
                        rw [ho] at hst
                        have hvz := numV_le hv
                        simp only [hv] at hpa
                        have HPA := Lib.hid hpa
                        cases s with
                        | true =>
                          have hON : O = none := by rw [← hst]; rfl
                          subst hON
                          clear hpa hbody hst hcut hGt hKt2 hK2 hV2 hKb hKn ho hv
                          go_wp2_with fail
                          refine (HW.out _).mono ?_
                          rintro e w2 ⟨rfl, hb2⟩
                          have hml := Lib.hid (hml.out.later hb2)
                          have u8 := (HC.out.1.below hml.out.mb.bel).u8
                          clear hb2
                          go_wp2_with fail
                          refine (HG.out _ u8).mono ?_
                          rintro e w3 ⟨rfl, hb3⟩
                          have hml := Lib.hid (hml.out.later hb3)
                          obtain ⟨m3, hm3⟩ := (HC.out.1.below hml.out.mb.bel).max
                          clear hb3 u8
                          go_wp2_with fail
                          refine (HCU.out _ m3 hm3).mono ?_
                          rintro e w4 ⟨rfl, n4, rfl⟩
                          have hml := Lib.hid (hml.out.later (below_drawN _ n4))
                          clear hm3
                          generalize World.drewN _ n4 = w4 at *
                          obtain ⟨ev, hv, hev⟩ := (HC.out.1.below hml.out.mb.bel).err
                          go_wp2_with fail
                          refine (HPA.out _ ev hv hev).mono ?_
                          rintro e w5 ⟨rfl, hb5⟩
                          have hml := Lib.hid (hml.out.later hb5)
                          have hlk := hml.out.look Kb
                          clear hb5 hv hev
                          rw [hhas] at hlk
                          go_wp2_with fail
                          have HR := Lib.hid (reply_at 501 (by decide) (by decide) (HC.out.1.below hml.out.mb.bel))
                          refine HR.out.mono ?_
                          rintro e w9 ⟨rfl, hb9⟩
                          go_wp2
                          go_ret
                          exact ⟨rfl, (Fr.of_below hml.out.mb.bel).then hb9, (H.out.later hml.out.mb.bel).later hb9⟩
                        | false =>
                          have hst2 : optsW k' y2 true b v = O := hst
                          have HN := Lib.hid (And.intro hst2 hKb)
                          clear hpa hbody hst hst2 hcut hGt hKt2 hK2 hV2 hKb hKn ho hv
                          go_wp2_with fail
                          refine (HW.out _).mono ?_
                          rintro e w2 ⟨rfl, hb2⟩
                          have hml := Lib.hid (hml.out.later hb2)
                          have u8 := (HC.out.1.below hml.out.mb.bel).u8
                          clear hb2
                          go_wp2_with fail
                          refine (HG.out _ u8).mono ?_
                          rintro e w3 ⟨rfl, hb3⟩
                          have hml := Lib.hid (hml.out.later hb3)
                          obtain ⟨m3, hm3⟩ := (HC.out.1.below hml.out.mb.bel).max
                          clear hb3 u8
                          go_wp2_with fail
                          refine (HCU.out _ m3 hm3).mono ?_
                          rintro e w4 ⟨rfl, n4, rfl⟩
                          have hml := Lib.hid (hml.out.later (below_drawN _ n4))
                          clear hm3
                          generalize World.drewN _ n4 = w4 at *
                          obtain ⟨ev, hv, hev⟩ := (HC.out.1.below hml.out.mb.bel).err
                          go_wp2_with fail
                          refine (HPA.out _ ev hv hev).mono ?_
                          rintro e w5 ⟨rfl, hb5⟩
                          have hml := Lib.hid (hml.out.later hb5)
                          have hlk := hml.out.look Kb
                          clear hb5 hv hev
                          rw [hhas] at hlk
                          go_wp2_with (refine wpList_update_map _ rfl (.tmp 97) (.tmp 98) _ _ rfl _ _ Tryz.underlying105 Tryz.underlying9 _ _ rfl hml.out.map _ rfl hhas ?_; intro w6 hm6 hg6; have hml := Lib.hid (hml.out.put Kb hm6 hg6); clear hm6 hg6)
                          go_roundw
                          case rel =>
                            have h6 := hml.out
                            rw [HN.out.2, show (szB == szB) = true by decide, show (bdB == szB) = false by decide, Bool.or_false, Bool.or_true] at h6
                            exact ⟨y2, true, b, v, k', _, by rw [HRE.out.1], rfl, Lib.hid h6, by have := HK.out; omega, hvz, Lib.hid ⟨by have := HK.out; omega, HN.out.1⟩⟩
                          case measure =>
                            rw [hkn]
                            show R2.size < _
                            have := HS2.out
                            have := HK.out
                            omega
                    · have qK : (Kb.toList == ([83, 73, 90, 69] : List UInt8)) = false := by rw [hKt2]; exact beq_eq_false_iff_ne.2 hKn
                      have ho := opt_none p K V f hbody hcut.symm (fun h => hKn h.1)
                      rw [ho] at hst
                      have hON : O = none := hst.symm
                      subst hON
                      have hpa2 : ∃ N : Int, ∃ F : Bool, ∀ (W : World) (ev : Value), W.cell? ⟨2, 0, none⟩ = some ev → (ev = .nilIface ∨ ∃ te pe, ev = .iface te pe) → Calls Tryz.prog 26 #[.string Vb, .int .i64 0, .int .i64 9223372036854775807] W fun e w' => e = .returned (.tuple #[.int .i64 N, .bool F]) ∧ Below W.heap.size W w' := ⟨_, _, hpa⟩
                      obtain ⟨N, F, hpa2⟩ := hpa2
                      have HPA := Lib.hid hpa2
                      cases hhas : mapHas Kb kvs with
                      | true =>
                        clear hpa hpa2 hbody hst hcut hGt hKt2 hK2 hV2 hKn ho
                        go_wp2_with fail
                        refine (HW.out _).mono ?_
                        rintro e w2 ⟨rfl, hb2⟩
                        have hml := Lib.hid (hml.out.later hb2)
                        have u8 := (HC.out.1.below hml.out.mb.bel).u8
                        clear hb2
                        go_wp2_with fail
                        refine (HG.out _ u8).mono ?_
                        rintro e w3 ⟨rfl, hb3⟩
                        have hml := Lib.hid (hml.out.later hb3)
                        obtain ⟨m3, hm3⟩ := (HC.out.1.below hml.out.mb.bel).max
                        clear hb3 u8
                        go_wp2_with fail
                        refine (HCU.out _ m3 hm3).mono ?_
                        rintro e w4 ⟨rfl, n4, rfl⟩
                        have hml := Lib.hid (hml.out.later (below_drawN _ n4))
                        clear hm3
                        generalize World.drewN _ n4 = w4 at *
                        obtain ⟨ev, hv, hev⟩ := (HC.out.1.below hml.out.mb.bel).err
                        go_wp2_with fail
                        refine (HPA.out _ ev hv hev).mono ?_
                        rintro e w5 ⟨rfl, hb5⟩
                        have hml := Lib.hid (hml.out.later hb5)
                        have hlk := hml.out.look Kb
                        clear hb5 hv hev
                        rw [hhas] at hlk
                        go_wp2_with fail
                        have HR := Lib.hid (reply_at 501 (by decide) (by decide) (HC.out.1.below hml.out.mb.bel))
                        refine HR.out.mono ?_
                        rintro e w9 ⟨rfl, hb9⟩
                        go_wp2
                        go_ret
                        exact ⟨rfl, (Fr.of_below hml.out.mb.bel).then hb9, (H.out.later hml.out.mb.bel).later hb9⟩
                      | false =>
                        clear hpa hpa2 hbody hst hcut hGt hKt2 hK2 hV2 hKn ho
                        go_wp2_with fail
                        refine (HW.out _).mono ?_
                        rintro e w2 ⟨rfl, hb2⟩
                        have hml := Lib.hid (hml.out.later hb2)
                        have u8 := (HC.out.1.below hml.out.mb.bel).u8
                        clear hb2
                        go_wp2_with fail
                        refine (HG.out _ u8).mono ?_
                        rintro e w3 ⟨rfl, hb3⟩
                        have hml := Lib.hid (hml.out.later hb3)
                        obtain ⟨m3, hm3⟩ := (HC.out.1.below hml.out.mb.bel).max
                        clear hb3 u8
                        go_wp2_with fail
                        refine (HCU.out _ m3 hm3).mono ?_
                        rintro e w4 ⟨rfl, n4, rfl⟩
                        have hml := Lib.hid (hml.out.later (below_drawN _ n4))
                        clear hm3
                        generalize World.drewN _ n4 = w4 at *
                        obtain ⟨ev, hv, hev⟩ := (HC.out.1.below hml.out.mb.bel).err
                        go_wp2_with fail
                        refine (HPA.out _ ev hv hev).mono ?_
                        rintro e w5 ⟨rfl, hb5⟩
                        have hml := Lib.hid (hml.out.later hb5)
                        have hlk := hml.out.look Kb
                        clear hb5 hv hev
                        rw [hhas] at hlk
                        go_wp2_with fail
                        have HR := Lib.hid (reply_at 501 (by decide) (by decide) (HC.out.1.below hml.out.mb.bel))
                        refine HR.out.mono ?_
                        rintro e w9 ⟨rfl, hb9⟩
                        go_wp2
                        go_ret
                        exact ⟨rfl, (Fr.of_below hml.out.mb.bel).then hb9, (H.out.later hml.out.mb.bel).later hb9⟩
            | cons c r =>
              obtain ⟨Y, hYE⟩ : ∃ Y, Y = bt (c :: r) := ⟨_, rfl⟩
              rw [← hYE] at HP
              have hYs : Y.size = r.length + 1 := by rw [hYE]; show (c :: r).toArray.size = _; simp
              have hca := fun W => ca_any c W
              rw [← hd_ext c r, ← hYE] at hca
              have q1 : Y.toList.isEmpty = false := str_neq (by omega)
              have u2 : (1 : Int) ≤ (Y.size : Int) := by omega
              have HYE := Lib.hid (And.intro hYE (Nat.zero_le 0))
              cases hb : blk c with
              | false =>
                rw [hb] at hca
                have HCA := Lib.hid hca
                rw [if_pos (by simp [hdB, hb])]
                clear hM hf h hC hG hP hp hm hKt hP' hpl hya haa e1 la ly hb hca hYE hYs hmw hae ha
                go_enter Tryz.func61, Tryz.ntmps61
                go_wp2_with fail
                refine HP.out.mono ?_
                rintro e w1 ⟨rfl, hb1⟩
                have tb := Lib.hid (MB.start (a := a) hb1)
                have cb : (w1.alloc (.cells #[.string (bt a)] 9)).cell? ⟨w1.heap.size, 0, none⟩ = some (.string (bt a)) := tb.out.cell
                clear hb1
                go_wp2_with fail
                refine (HM.out _).mono ?_
                rintro e w2 ⟨rfl, rfl⟩
                go_wp2_with fail
                refine (HCA.out _).mono ?_
                rintro e w3 ⟨rfl, hb3⟩
                have tb := Lib.hid (tb.out.later hb3)
                clear hb3 cb
                have HR := Lib.hid (reply_at 501 (by decide) (by decide) (HC.out.1.below tb.out.bel))
                go_wp2_with fail
                refine HR.out.mono ?_
                rintro e w9 ⟨rfl, hb9⟩
                go_wp2
                go_ret
                exact ⟨rfl, (Fr.of_below tb.out.bel).then hb9, (H.out.later tb.out.bel).later hb9⟩
              | true =>
                rw [hb] at hca
                have HCA := Lib.hid hca
                rw [if_neg (by rw [hae]; simp [hdB, hb])]
                clear hM hf h hC hG hP hp hm hKt hP' hpl hya haa e1 la ly hb hca hYE hYs hmw hae ha
                go_enter Tryz.func61, Tryz.ntmps61
                go_wp2_with fail
                refine HP.out.mono ?_
                rintro e w1 ⟨rfl, hb1⟩
                have tb := Lib.hid (MB.start (a := a) hb1)
                have cb : (w1.alloc (.cells #[.string (bt a)] 9)).cell? ⟨w1.heap.size, 0, none⟩ = some (.string (bt a)) := tb.out.cell
                clear hb1
                go_wp2_with fail
                refine (HM.out _).mono ?_
                rintro e w2 ⟨rfl, rfl⟩
                go_wp2_with fail
                refine (HCA.out _).mono ?_
                rintro e w3 ⟨rfl, hb3⟩
                have tb := Lib.hid (tb.out.later hb3)
                have cb := tb.out.cell
                clear hb3 q1 u2 HCA
                have hmm := @run_makeMap Tryz.prog
                go_wp2
                clear hmm cb
                go_loopw [1, 7] (fun rv nv wr => ∃ (y' : List UInt8) (s b : Bool) (n k : Nat) (kvs : List (ByteArray × Value)), rv = .string (bt y') ∧ nv = .int .i64 n ∧ Hid (ML w wr w1.heap.size (w3.heap.size) a kvs s b) ∧ y'.length ≤ 100000 ∧ n ≤ 9223372036854775807 ∧ Hid (y'.length ≤ k ∧ optsW k y' s b n = O)) (fun rv _ _ => szOf rv)
                case atStart => exact ⟨(c :: r), false, false, 0, _, [], by first | rfl | (rw [HYE.out.1]), rfl, Lib.hid (by have h := ML.start tb.out; first | exact h | (rw [show (w1.alloc (.cells #[.string (bt a)] 9)).heap.size = w1.heap.size + 1 by simp] at h; exact h)), by have := hyl; omega, by decide, HO.out.2, HO.out.1⟩
                case round =>
                  obtain ⟨y', s, b, n, k, kvs, rfl, rfl, hml, hy1, hn, hrel⟩ := hrel
                  have d0 := (H.out.later hml.out.mb.bel).cells.1.1
                  have d4 := (H.out.later hml.out.mb.bel).cells.1.2.2.2.2.1
                  have g4 := (H.out.later hml.out.mb.bel).cells.2 4
                  cases y' with
                  | nil =>
                    have hOe : O = some n := by rw [← hrel.out.2]; cases k <;> rfl
                    subst hOe
                    have e0 : bt ([] : List UInt8) = ⟨#[]⟩ := rfl
                    rw [e0]
                    clear hrel HO
                    by_cases hmn : most < n
                    · have q1 : decide ((most : Int) < (n : Int)) = true := decide_eq_true (by omega)
                      have q2 : decide (most < n) = true := decide_eq_true hmn
                      have hE : Hid (mailE most a (some n) = (552, none) ∧ 0 ≤ n) := ⟨if_pos hmn, Nat.zero_le _⟩
                      clear hmn e0 hy1
                      have HR := Lib.hid (reply_at 552 (by decide) (by decide) (HC.out.1.below hml.out.mb.bel))
                      go_wp2_with fail
                      refine HR.out.mono ?_
                      rintro e w9 ⟨rfl, hb9⟩
                      go_wp2
                      go_ret
                      rw [hE.out.1]
                      exact ⟨rfl, (Fr.of_below hml.out.mb.bel).then hb9, (H.out.later hml.out.mb.bel).later hb9⟩
                    · have q1 : decide ((most : Int) < (n : Int)) = false := decide_eq_false (by omega)
                      have q2 : decide (most < n) = false := decide_eq_false hmn
                      have hE : Hid (mailE most a (some n) = (250, some a) ∧ 0 ≤ n) := ⟨if_neg hmn, Nat.zero_le _⟩
                      have hF := (Fr.of_below (X := Bk sb) hml.out.mb.bel).setCell (b := sb) (o := 4) (by rfl) (.pointer (some ⟨w1.heap.size, 0, none⟩))
                      have HF := Lib.hid hF
                      have HCF := Lib.hid (HC.out.1.own HC.out.2 hF)
                      clear hmn e0 hF hy1
                      have HR := Lib.hid (reply_at 250 (by decide) (by decide) HCF.out)
                      go_wp2_with fail
                      refine HR.out.mono ?_
                      rintro e w9 ⟨rfl, hb9⟩
                      go_wp2
                      go_ret
                      rw [hE.out.1]
                      have hbx := hml.out.mb.box
                      have hne : w1.heap.size ≠ sb := by have := hml.out.mb.hbx; have := H.out.lt; omega
                      have hb2 := (Below.heap_setCell wr ⟨sb, 4, none⟩ (.pointer (some ⟨w1.heap.size, 0, none⟩)) w1.heap.size hne).trans hbx
                      exact ⟨rfl, HF.out.then hb9, w1.heap.size, hml.out.mb.hbx, ((H.out.later hml.out.mb.bel).set4 _).later hb9, (hb9.block _ (lt_of_block hb2)).trans hb2⟩
                  | cons c l =>
                    have hne : (bt (c :: l)).toList.isEmpty = false := str_neq (by show 0 < (c :: l).toArray.size; simp)
                    have hsz : (bt (c :: l)).size = l.length + 1 := by show (c :: l).toArray.size = _; simp
                    have hle : l.length + 1 ≤ 100000 := hy1
                    obtain ⟨k', rfl⟩ : ∃ k', k = k' + 1 := by
                      have := hrel.out.1
                      rw [List.length_cons] at this
                      exact ⟨k - 1, by omega⟩
                    have hw := fun W => wordS_any (bt (c :: l)) W (by omega)
                    rw [bt_data] at hw
                    obtain ⟨z1, z2⟩ := wordW_len (c :: l) (by simp)
                    rw [List.length_cons] at z1 z2
                    have hst := hrel.out.2
                    have hk := hrel.out.1
                    rw [List.length_cons] at hk
                    rw [optsW_cons] at hst
                    obtain ⟨p, hp0⟩ : ∃ p, p = (wordW (c :: l)).1 := ⟨_, rfl⟩
                    obtain ⟨y2, hy20⟩ : ∃ y2, y2 = (wordW (c :: l)).2 := ⟨_, rfl⟩
                    unfold WordIs at hw
                    rw [← hp0, ← hy20] at hw
                    rw [← hp0, ← hy20] at hst
                    rw [← hp0] at z1
                    rw [← hy20] at z2
                    have hpz : (bt p).size = p.length := by show p.toArray.size = _; simp
                    have hg := fun W hT => great_any (bt p) W (by omega) hT
                    rw [bt_data] at hg
                    have hY2 : (bt y2).size = y2.length := by show y2.toArray.size = _; simp
                    have hgl : (Lib.mapD upR p).length ≤ 1000000 := by have := mapD_len p; omega
                    obtain ⟨Gb, hG1, hG2, hG3⟩ := bt_ex (Lib.mapD upR p)
                    have hG4 : (⟨(Lib.mapD upR p).toArray⟩ : ByteArray) = Gb := hG1.symm
                    rw [hG4] at hg
                    have hcu := fun W m hm => Tryz.strings_Cut Gb ⟨#[61]⟩ m W (by omega) hm
                    rw [hG2] at hcu
                    obtain ⟨⟨K, V, f⟩, hcut⟩ : ∃ x, x = Lib.cut (Lib.mapD upR p) [61] := ⟨_, rfl⟩
                    have e61 : (⟨#[61]⟩ : ByteArray).data.toList = [61] := rfl
                    rw [e61, ← hcut] at hcu
                    obtain ⟨Kb, hK1, hK2, hK3⟩ := bt_ex K
                    obtain ⟨Vb, hV1, hV2, hV3⟩ := bt_ex V
                    have hK4 : (⟨K.toArray⟩ : ByteArray) = Kb := hK1.symm
                    have hV4 : (⟨V.toArray⟩ : ByteArray) = Vb := hV1.symm
                    simp only [hK4, hV4] at hcu
                    obtain ⟨l1, l2⟩ := cut_len (Lib.mapD upR p) 61
                    rw [← hcut] at l1 l2
                    simp only at l1 l2
                    have hpa := fun W ev hv hev => parse_any Vb 0 9223372036854775807 W (by omega) ev hv hev
                    rw [hV2, numV_parse] at hpa
                    obtain ⟨R2, hR2⟩ : ∃ R2, R2 = bt y2 := ⟨_, rfl⟩
                    rw [← hR2] at hw hY2
                    have HRE := Lib.hid (And.intro hR2 (Nat.le_refl 0))
                    clear hR2
                    have HW := Lib.hid hw
                    have HG := Lib.hid hg
                    have HCU := Lib.hid hcu
                    have HK := Lib.hid (And.intro hk (And.intro z2 hle))
                    have HS2 := Lib.hid (show (bt (c :: l)).size = l.length + 1 ∧ R2.size = y2.length from ⟨hsz, hY2⟩)
                    have hGt : Gb.toList = Lib.mapD upR p := by rw [Lib.toList_data, hG2]
                    have hKt2 : Kb.toList = K := by rw [Lib.toList_data, hK2]
                    generalize bt (c :: l) = R0 at *
                    generalize bt p = P0 at *
                    have hkn : szOf (.string R0) = l.length + 1 := HS2.out.1
                    clear hw hg hcu hk z1 z2 hle hsz hY2 hp0 hy20 hgl hG1 hG3 hG4 e61 hK1 hK3 hV1 hV3 hK4 hV4 l1 l2 hpz hy1 hyl HO hG2 hrel
                    by_cases hbody : Lib.mapD upR p = body7 ∨ Lib.mapD upR p = body8
                    · obtain ⟨o1, o2⟩ := opt_body p hbody
                      rw [← hcut] at o2
                      have o2 : K = bodyN := o2
                      rw [o1] at hst
                      have hKb : Kb = bdB := by rw [← bt_back Kb, hK2, o2]; rfl
                      have qK : (Kb.toList == ([83, 73, 90, 69] : List UInt8)) = false := by rw [hKt2, o2]; decide
                      have hpa2 : ∃ N : Int, ∃ F : Bool, ∀ (W : World) (ev : Value), W.cell? ⟨2, 0, none⟩ = some ev → (ev = .nilIface ∨ ∃ te pe, ev = .iface te pe) → Calls Tryz.prog 26 #[.string Vb, .int .i64 0, .int .i64 9223372036854775807] W fun e w' => e = .returned (.tuple #[.int .i64 N, .bool F]) ∧ Below W.heap.size W w' := ⟨_, _, hpa⟩
                      obtain ⟨N, F, hpa2⟩ := hpa2
                      have HPA := Lib.hid hpa2
                      have hhas : mapHas Kb kvs = b := by rw [hKb]; exact hml.out.hb
                      have hG7 : (Gb.toList == ([66, 79, 68, 89, 61, 55, 66, 73, 84] : List UInt8)) = true ∨ ((Gb.toList == ([66, 79, 68, 89, 61, 55, 66, 73, 84] : List UInt8)) = false ∧ (Gb.toList == ([66, 79, 68, 89, 61, 56, 66, 73, 84, 77, 73, 77, 69] : List UInt8)) = true) := by
                        rw [hGt]
                        rcases hbody with e | e <;> rw [e]
                        · exact .inl (by decide)
                        · exact .inr ⟨by decide, by decide⟩
                      cases b with
                      | true =>
                        have hON : O = none := by rw [← hst]; rfl
                        subst hON
                        clear hpa hpa2 hbody o1 o2 hst hcut hGt hKt2 hG7 hK2 hV2 hKb
                        go_wp2_with fail
                        refine (HW.out _).mono ?_
                        rintro e w2 ⟨rfl, hb2⟩
                        have hml := Lib.hid (hml.out.later hb2)
                        have u8 := (HC.out.1.below hml.out.mb.bel).u8
                        clear hb2
                        go_wp2_with fail
                        refine (HG.out _ u8).mono ?_
                        rintro e w3 ⟨rfl, hb3⟩
                        have hml := Lib.hid (hml.out.later hb3)
                        obtain ⟨m3, hm3⟩ := (HC.out.1.below hml.out.mb.bel).max
                        clear hb3 u8
                        go_wp2_with fail
                        refine (HCU.out _ m3 hm3).mono ?_
                        rintro e w4 ⟨rfl, n4, rfl⟩
                        have hml := Lib.hid (hml.out.later (below_drawN _ n4))
                        clear hm3
                        generalize World.drewN _ n4 = w4 at *
                        obtain ⟨ev, hv, hev⟩ := (HC.out.1.below hml.out.mb.bel).err
                        go_wp2_with fail
                        refine (HPA.out _ ev hv hev).mono ?_
                        rintro e w5 ⟨rfl, hb5⟩
                        have hml := Lib.hid (hml.out.later hb5)
                        have hlk := hml.out.look Kb
                        clear hb5 hv hev
                        rw [hhas] at hlk
                        go_wp2_with fail
                        have HR := Lib.hid (reply_at 501 (by decide) (by decide) (HC.out.1.below hml.out.mb.bel))
                        refine HR.out.mono ?_
                        rintro e w9 ⟨rfl, hb9⟩
                        go_wp2
                        go_ret
                        exact ⟨rfl, (Fr.of_below hml.out.mb.bel).then hb9, (H.out.later hml.out.mb.bel).later hb9⟩
                      | false =>
                        have hst2 : optsW k' y2 s true n = O := hst
                        have HN := Lib.hid (And.intro hst2 hKb)
                        clear hpa hpa2 hbody o1 o2 hst hst2 hcut hGt hKt2 hK2 hV2 hKb
                        rcases hG7 with q7 | ⟨q7, q8⟩
                        · skip
                          go_wp2_with fail
                          refine (HW.out _).mono ?_
                          rintro e w2 ⟨rfl, hb2⟩
                          have hml := Lib.hid (hml.out.later hb2)
                          have u8 := (HC.out.1.below hml.out.mb.bel).u8
                          clear hb2
                          go_wp2_with fail
                          refine (HG.out _ u8).mono ?_
                          rintro e w3 ⟨rfl, hb3⟩
                          have hml := Lib.hid (hml.out.later hb3)
                          obtain ⟨m3, hm3⟩ := (HC.out.1.below hml.out.mb.bel).max
                          clear hb3 u8
                          go_wp2_with fail
                          refine (HCU.out _ m3 hm3).mono ?_
                          rintro e w4 ⟨rfl, n4, rfl⟩
                          have hml := Lib.hid (hml.out.later (below_drawN _ n4))
                          clear hm3
                          generalize World.drewN _ n4 = w4 at *
                          obtain ⟨ev, hv, hev⟩ := (HC.out.1.below hml.out.mb.bel).err
                          go_wp2_with fail
                          refine (HPA.out _ ev hv hev).mono ?_
                          rintro e w5 ⟨rfl, hb5⟩
                          have hml := Lib.hid (hml.out.later hb5)
                          have hlk := hml.out.look Kb
                          clear hb5 hv hev
                          rw [hhas] at hlk
                          go_wp2_with (refine wpList_update_map _ rfl (.tmp 97) (.tmp 98) _ _ rfl _ _ Tryz.underlying105 Tryz.underlying9 _ _ rfl hml.out.map _ rfl hhas ?_; intro w6 hm6 hg6; have hml := Lib.hid (hml.out.put Kb hm6 hg6); clear hm6 hg6)
                          go_roundw
                          case rel =>
                            have h6 := hml.out
                            rw [HN.out.2, show (szB == bdB) = false by decide, show (bdB == bdB) = true by decide, Bool.or_false, Bool.or_true] at h6
                            exact ⟨y2, s, true, n, k', _, by rw [HRE.out.1], rfl, Lib.hid h6, by have := HK.out; omega, hn, Lib.hid ⟨by have := HK.out; omega, HN.out.1⟩⟩
                          case measure =>
                            rw [hkn]
                            show R2.size < _
                            have := HS2.out
                            have := HK.out
                            omega
                        · skip
                          go_wp2_with fail
                          refine (HW.out _).mono ?_
                          rintro e w2 ⟨rfl, hb2⟩
                          have hml := Lib.hid (hml.out.later hb2)
                          have u8 := (HC.out.1.below hml.out.mb.bel).u8
                          clear hb2
                          go_wp2_with fail
                          refine (HG.out _ u8).mono ?_
                          rintro e w3 ⟨rfl, hb3⟩
                          have hml := Lib.hid (hml.out.later hb3)
                          obtain ⟨m3, hm3⟩ := (HC.out.1.below hml.out.mb.bel).max
                          clear hb3 u8
                          go_wp2_with fail
                          refine (HCU.out _ m3 hm3).mono ?_
                          rintro e w4 ⟨rfl, n4, rfl⟩
                          have hml := Lib.hid (hml.out.later (below_drawN _ n4))
                          clear hm3
                          generalize World.drewN _ n4 = w4 at *
                          obtain ⟨ev, hv, hev⟩ := (HC.out.1.below hml.out.mb.bel).err
                          go_wp2_with fail
                          refine (HPA.out _ ev hv hev).mono ?_
                          rintro e w5 ⟨rfl, hb5⟩
                          have hml := Lib.hid (hml.out.later hb5)
                          have hlk := hml.out.look Kb
                          clear hb5 hv hev
                          rw [hhas] at hlk
                          go_wp2_with (refine wpList_update_map _ rfl (.tmp 97) (.tmp 98) _ _ rfl _ _ Tryz.underlying105 Tryz.underlying9 _ _ rfl hml.out.map _ rfl hhas ?_; intro w6 hm6 hg6; have hml := Lib.hid (hml.out.put Kb hm6 hg6); clear hm6 hg6)
                          go_roundw
                          case rel =>
                            have h6 := hml.out
                            rw [HN.out.2, show (szB == bdB) = false by decide, show (bdB == bdB) = true by decide, Bool.or_false, Bool.or_true] at h6
                            exact ⟨y2, s, true, n, k', _, by rw [HRE.out.1], rfl, Lib.hid h6, by have := HK.out; omega, hn, Lib.hid ⟨by have := HK.out; omega, HN.out.1⟩⟩
                          case measure =>
                            rw [hkn]
                            show R2.size < _
                            have := HS2.out
                            have := HK.out
                            omega
                    · have qB7 : (Gb.toList == ([66, 79, 68, 89, 61, 55, 66, 73, 84] : List UInt8)) = false := by
                        rw [hGt]; exact beq_eq_false_iff_ne.2 fun e => hbody (.inl e)
                      have qB8 : (Gb.toList == ([66, 79, 68, 89, 61, 56, 66, 73, 84, 77, 73, 77, 69] : List UInt8)) = false := by
                        rw [hGt]; exact beq_eq_false_iff_ne.2 fun e => hbody (.inr e)
                      by_cases hKn : K = sizeN
                      · have qK : (Kb.toList == ([83, 73, 90, 69] : List UInt8)) = true := by rw [hKt2, hKn]; decide
                        have hKb : Kb = szB := by rw [← bt_back Kb, hK2, hKn]; rfl
                        have hhas : mapHas Kb kvs = s := by rw [hKb]; exact hml.out.hs
                        cases hv : numV V with
                        | none =>
                          have ho := opt_none p K V f hbody hcut.symm (by rw [hv]; rintro ⟨-, h⟩; exact h rfl)
                          rw [ho] at hst
                          have hON : O = none := hst.symm
                          subst hON
                          simp only [hv] at hpa
                          have HPA := Lib.hid hpa
                          cases s with
                          | true =>
                            clear hpa hbody hst hcut hGt hKt2 hK2 hV2 hKb hKn ho hv
                            go_wp2_with fail
                            refine (HW.out _).mono ?_
                            rintro e w2 ⟨rfl, hb2⟩
                            have hml := Lib.hid (hml.out.later hb2)
                            have u8 := (HC.out.1.below hml.out.mb.bel).u8
                            clear hb2
                            go_wp2_with fail
                            refine (HG.out _ u8).mono ?_
                            rintro e w3 ⟨rfl, hb3⟩
                            have hml := Lib.hid (hml.out.later hb3)
                            obtain ⟨m3, hm3⟩ := (HC.out.1.below hml.out.mb.bel).max
                            clear hb3 u8
                            go_wp2_with fail
                            refine (HCU.out _ m3 hm3).mono ?_
                            rintro e w4 ⟨rfl, n4, rfl⟩
                            have hml := Lib.hid (hml.out.later (below_drawN _ n4))
                            clear hm3
                            generalize World.drewN _ n4 = w4 at *
                            obtain ⟨ev, hv, hev⟩ := (HC.out.1.below hml.out.mb.bel).err
                            go_wp2_with fail
                            refine (HPA.out _ ev hv hev).mono ?_
                            rintro e w5 ⟨rfl, hb5⟩
                            have hml := Lib.hid (hml.out.later hb5)
                            have hlk := hml.out.look Kb
                            clear hb5 hv hev
                            rw [hhas] at hlk
                            go_wp2_with fail
                            have HR := Lib.hid (reply_at 501 (by decide) (by decide) (HC.out.1.below hml.out.mb.bel))
                            refine HR.out.mono ?_
                            rintro e w9 ⟨rfl, hb9⟩
                            go_wp2
                            go_ret
                            exact ⟨rfl, (Fr.of_below hml.out.mb.bel).then hb9, (H.out.later hml.out.mb.bel).later hb9⟩
                          | false =>
                            clear hpa hbody hst hcut hGt hKt2 hK2 hV2 hKb hKn ho hv
                            go_wp2_with fail
                            refine (HW.out _).mono ?_
                            rintro e w2 ⟨rfl, hb2⟩
                            have hml := Lib.hid (hml.out.later hb2)
                            have u8 := (HC.out.1.below hml.out.mb.bel).u8
                            clear hb2
                            go_wp2_with fail
                            refine (HG.out _ u8).mono ?_
                            rintro e w3 ⟨rfl, hb3⟩
                            have hml := Lib.hid (hml.out.later hb3)
                            obtain ⟨m3, hm3⟩ := (HC.out.1.below hml.out.mb.bel).max
                            clear hb3 u8
                            go_wp2_with fail
                            refine (HCU.out _ m3 hm3).mono ?_
                            rintro e w4 ⟨rfl, n4, rfl⟩
                            have hml := Lib.hid (hml.out.later (below_drawN _ n4))
                            clear hm3
                            generalize World.drewN _ n4 = w4 at *
                            obtain ⟨ev, hv, hev⟩ := (HC.out.1.below hml.out.mb.bel).err
                            go_wp2_with fail
                            refine (HPA.out _ ev hv hev).mono ?_
                            rintro e w5 ⟨rfl, hb5⟩
                            have hml := Lib.hid (hml.out.later hb5)
                            have hlk := hml.out.look Kb
                            clear hb5 hv hev
                            rw [hhas] at hlk
                            go_wp2_with fail
                            have HR := Lib.hid (reply_at 501 (by decide) (by decide) (HC.out.1.below hml.out.mb.bel))
                            refine HR.out.mono ?_
                            rintro e w9 ⟨rfl, hb9⟩
                            go_wp2
                            go_ret
                            exact ⟨rfl, (Fr.of_below hml.out.mb.bel).then hb9, (H.out.later hml.out.mb.bel).later hb9⟩
                        | some v =>
                          have ho := opt_size p K V f v hbody hcut.symm hKn hv
                          rw [ho] at hst
                          have hvz := numV_le hv
                          simp only [hv] at hpa
                          have HPA := Lib.hid hpa
                          cases s with
                          | true =>
                            have hON : O = none := by rw [← hst]; rfl
                            subst hON
                            clear hpa hbody hst hcut hGt hKt2 hK2 hV2 hKb hKn ho hv
                            go_wp2_with fail
                            refine (HW.out _).mono ?_
                            rintro e w2 ⟨rfl, hb2⟩
                            have hml := Lib.hid (hml.out.later hb2)
                            have u8 := (HC.out.1.below hml.out.mb.bel).u8
                            clear hb2
                            go_wp2_with fail
                            refine (HG.out _ u8).mono ?_
                            rintro e w3 ⟨rfl, hb3⟩
                            have hml := Lib.hid (hml.out.later hb3)
                            obtain ⟨m3, hm3⟩ := (HC.out.1.below hml.out.mb.bel).max
                            clear hb3 u8
                            go_wp2_with fail
                            refine (HCU.out _ m3 hm3).mono ?_
                            rintro e w4 ⟨rfl, n4, rfl⟩
                            have hml := Lib.hid (hml.out.later (below_drawN _ n4))
                            clear hm3
                            generalize World.drewN _ n4 = w4 at *
                            obtain ⟨ev, hv, hev⟩ := (HC.out.1.below hml.out.mb.bel).err
                            go_wp2_with fail
                            refine (HPA.out _ ev hv hev).mono ?_
                            rintro e w5 ⟨rfl, hb5⟩
                            have hml := Lib.hid (hml.out.later hb5)
                            have hlk := hml.out.look Kb
                            clear hb5 hv hev
                            rw [hhas] at hlk
                            go_wp2_with fail
                            have HR := Lib.hid (reply_at 501 (by decide) (by decide) (HC.out.1.below hml.out.mb.bel))
                            refine HR.out.mono ?_
                            rintro e w9 ⟨rfl, hb9⟩
                            go_wp2
                            go_ret
                            exact ⟨rfl, (Fr.of_below hml.out.mb.bel).then hb9, (H.out.later hml.out.mb.bel).later hb9⟩
                          | false =>
                            have hst2 : optsW k' y2 true b v = O := hst
                            have HN := Lib.hid (And.intro hst2 hKb)
                            clear hpa hbody hst hst2 hcut hGt hKt2 hK2 hV2 hKb hKn ho hv
                            go_wp2_with fail
                            refine (HW.out _).mono ?_
                            rintro e w2 ⟨rfl, hb2⟩
                            have hml := Lib.hid (hml.out.later hb2)
                            have u8 := (HC.out.1.below hml.out.mb.bel).u8
                            clear hb2
                            go_wp2_with fail
                            refine (HG.out _ u8).mono ?_
                            rintro e w3 ⟨rfl, hb3⟩
                            have hml := Lib.hid (hml.out.later hb3)
                            obtain ⟨m3, hm3⟩ := (HC.out.1.below hml.out.mb.bel).max
                            clear hb3 u8
                            go_wp2_with fail
                            refine (HCU.out _ m3 hm3).mono ?_
                            rintro e w4 ⟨rfl, n4, rfl⟩
                            have hml := Lib.hid (hml.out.later (below_drawN _ n4))
                            clear hm3
                            generalize World.drewN _ n4 = w4 at *
                            obtain ⟨ev, hv, hev⟩ := (HC.out.1.below hml.out.mb.bel).err
                            go_wp2_with fail
                            refine (HPA.out _ ev hv hev).mono ?_
                            rintro e w5 ⟨rfl, hb5⟩
                            have hml := Lib.hid (hml.out.later hb5)
                            have hlk := hml.out.look Kb
                            clear hb5 hv hev
                            rw [hhas] at hlk
                            go_wp2_with (refine wpList_update_map _ rfl (.tmp 97) (.tmp 98) _ _ rfl _ _ Tryz.underlying105 Tryz.underlying9 _ _ rfl hml.out.map _ rfl hhas ?_; intro w6 hm6 hg6; have hml := Lib.hid (hml.out.put Kb hm6 hg6); clear hm6 hg6)
                            go_roundw
                            case rel =>
                              have h6 := hml.out
                              rw [HN.out.2, show (szB == szB) = true by decide, show (bdB == szB) = false by decide, Bool.or_false, Bool.or_true] at h6
                              exact ⟨y2, true, b, v, k', _, by rw [HRE.out.1], rfl, Lib.hid h6, by have := HK.out; omega, hvz, Lib.hid ⟨by have := HK.out; omega, HN.out.1⟩⟩
                            case measure =>
                              rw [hkn]
                              show R2.size < _
                              have := HS2.out
                              have := HK.out
                              omega
                      · have qK : (Kb.toList == ([83, 73, 90, 69] : List UInt8)) = false := by rw [hKt2]; exact beq_eq_false_iff_ne.2 hKn
                        have ho := opt_none p K V f hbody hcut.symm (fun h => hKn h.1)
                        rw [ho] at hst
                        have hON : O = none := hst.symm
                        subst hON
                        have hpa2 : ∃ N : Int, ∃ F : Bool, ∀ (W : World) (ev : Value), W.cell? ⟨2, 0, none⟩ = some ev → (ev = .nilIface ∨ ∃ te pe, ev = .iface te pe) → Calls Tryz.prog 26 #[.string Vb, .int .i64 0, .int .i64 9223372036854775807] W fun e w' => e = .returned (.tuple #[.int .i64 N, .bool F]) ∧ Below W.heap.size W w' := ⟨_, _, hpa⟩
                        obtain ⟨N, F, hpa2⟩ := hpa2
                        have HPA := Lib.hid hpa2
                        cases hhas : mapHas Kb kvs with
                        | true =>
                          clear hpa hpa2 hbody hst hcut hGt hKt2 hK2 hV2 hKn ho
                          go_wp2_with fail
                          refine (HW.out _).mono ?_
                          rintro e w2 ⟨rfl, hb2⟩
                          have hml := Lib.hid (hml.out.later hb2)
                          have u8 := (HC.out.1.below hml.out.mb.bel).u8
                          clear hb2
                          go_wp2_with fail
                          refine (HG.out _ u8).mono ?_
                          rintro e w3 ⟨rfl, hb3⟩
                          have hml := Lib.hid (hml.out.later hb3)
                          obtain ⟨m3, hm3⟩ := (HC.out.1.below hml.out.mb.bel).max
                          clear hb3 u8
                          go_wp2_with fail
                          refine (HCU.out _ m3 hm3).mono ?_
                          rintro e w4 ⟨rfl, n4, rfl⟩
                          have hml := Lib.hid (hml.out.later (below_drawN _ n4))
                          clear hm3
                          generalize World.drewN _ n4 = w4 at *
                          obtain ⟨ev, hv, hev⟩ := (HC.out.1.below hml.out.mb.bel).err
                          go_wp2_with fail
                          refine (HPA.out _ ev hv hev).mono ?_
                          rintro e w5 ⟨rfl, hb5⟩
                          have hml := Lib.hid (hml.out.later hb5)
                          have hlk := hml.out.look Kb
                          clear hb5 hv hev
                          rw [hhas] at hlk
                          go_wp2_with fail
                          have HR := Lib.hid (reply_at 501 (by decide) (by decide) (HC.out.1.below hml.out.mb.bel))
                          refine HR.out.mono ?_
                          rintro e w9 ⟨rfl, hb9⟩
                          go_wp2
                          go_ret
                          exact ⟨rfl, (Fr.of_below hml.out.mb.bel).then hb9, (H.out.later hml.out.mb.bel).later hb9⟩
                        | false =>
                          clear hpa hpa2 hbody hst hcut hGt hKt2 hK2 hV2 hKn ho
                          go_wp2_with fail
                          refine (HW.out _).mono ?_
                          rintro e w2 ⟨rfl, hb2⟩
                          have hml := Lib.hid (hml.out.later hb2)
                          have u8 := (HC.out.1.below hml.out.mb.bel).u8
                          clear hb2
                          go_wp2_with fail
                          refine (HG.out _ u8).mono ?_
                          rintro e w3 ⟨rfl, hb3⟩
                          have hml := Lib.hid (hml.out.later hb3)
                          obtain ⟨m3, hm3⟩ := (HC.out.1.below hml.out.mb.bel).max
                          clear hb3 u8
                          go_wp2_with fail
                          refine (HCU.out _ m3 hm3).mono ?_
                          rintro e w4 ⟨rfl, n4, rfl⟩
                          have hml := Lib.hid (hml.out.later (below_drawN _ n4))
                          clear hm3
                          generalize World.drewN _ n4 = w4 at *
                          obtain ⟨ev, hv, hev⟩ := (HC.out.1.below hml.out.mb.bel).err
                          go_wp2_with fail
                          refine (HPA.out _ ev hv hev).mono ?_
                          rintro e w5 ⟨rfl, hb5⟩
                          have hml := Lib.hid (hml.out.later hb5)
                          have hlk := hml.out.look Kb
                          clear hb5 hv hev
                          rw [hhas] at hlk
                          go_wp2_with fail
                          have HR := Lib.hid (reply_at 501 (by decide) (by decide) (HC.out.1.below hml.out.mb.bel))
                          refine HR.out.mono ?_
                          rintro e w9 ⟨rfl, hb9⟩
                          go_wp2
                          go_ret
                          exact ⟨rfl, (Fr.of_below hml.out.mb.bel).then hb9, (H.out.later hml.out.mb.bel).later hb9⟩
end Go.Proofs.YtjoipgekmnnlpaaGreatDoor
