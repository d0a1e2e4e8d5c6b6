/- Walks: chapter 22's law functions: lists of envelopes, Same, few. Walks: chapter 22's law functions: the reference's Same. Walks: chapter 22's law functions: drained. -/
import Derived.Test.YtjoipgekmnnlpaaGreatDoorSmMl
import Derived.Test.YtjoipgekmnnlpaaGreatDoorSmPz
namespace Go.Proofs.YtjoipgekmnnlpaaGreatDoor
open Go.RowKit Go.Shelf Go.Lib Pk Sm

section
variable {G : Nat} {w w' : World} {sb most : Nat} {s : Whl} {R : Roles}
theorem mailA_any (h : SesAt G w sb most s R) (hi : Inv most s.st) (hbl : (s.st.body.getD []).length ≤ 100000000) : Calls Tryz.prog 19 #[.pointer (some ⟨sb, 0, none⟩)] w (MldIs G w sb most s R) := by
  cases hw : s.st.waits with
  | false => exact mailA_no h hw
  | true => exact mailA_yes h hi hw hbl
def envL : Lay RE := ⟨fun r => [.string r.f, .slice r.p r.n r.c, .string r.b], 3, fun _ => rfl, by decide, fun x u hu => by simp at hu; rcases hu with rfl | rfl | rfl <;> rfl⟩
theorem envG : GSl envL 56 Tryz.prog 40 35 := GSl.of Tryz.underlying40 (by kernel_rfl)
/-- envelopes one by one -/
def Envs (w : World) (Y : Nat → Prop) : List RE → List Env → Prop
  | [], [] => True
  | r :: rs, m :: ms => EnvAt w Y r m ∧ Envs w Y rs ms
  | _, _ => False
theorem EnvAt.keepsB {Y Z : Nat → Prop} {r : RE} {m : Env} (h : EnvAt w Y r m) (hk : ∀ g, Y g → g < w.heap.size → w'.heap[g]? = w.heap[g]?) (hs : w.heap.size ≤ w'.heap.size) (hY : ∀ g, Y g → g < w.heap.size → Z g) : EnvAt w' Z r m := by
  refine ⟨h.1, h.2.1, ?_⟩
  obtain ⟨p, c, h1, h2, h3⟩ := h.2.2
  refine ⟨p, c, h1, h2, ?_⟩
  rcases h3 with h3 | ⟨g, o, h4, h5, h6, h7⟩
  · exact .inl h3
  · exact .inr ⟨g, o, h4, hY g h5 h6, by omega, fun j hj i u hu => (World.cell?_of_block (hk g h5 h6)).trans (h7 j hj i u hu)⟩
theorem Envs.keeps {Y Z : Nat → Prop} (hk : ∀ g, Y g → g < w.heap.size → w'.heap[g]? = w.heap[g]?) (hs : w.heap.size ≤ w'.heap.size) (hY : ∀ g, Y g → g < w.heap.size → Z g) : ∀ {rs : List RE} {ms : List Env}, Envs w Y rs ms → Envs w' Z rs ms
  | [], [], _ => trivial
  | [], _ :: _, h => h.elim
  | _ :: _, [], h => h.elim
  | _ :: _, _ :: _, h => ⟨h.1.keepsB hk hs hY, Envs.keeps hk hs hY h.2⟩
theorem Envs.snoc {Y : Nat → Prop} {r : RE} {m : Env} (hr : EnvAt w Y r m) : ∀ {rs : List RE} {ms : List Env}, Envs w Y rs ms → Envs w Y (rs ++ [r]) (ms ++ [m])
  | [], [], _ => ⟨hr, trivial⟩
  | [], _ :: _, h => h.elim
  | _ :: _, [], h => h.elim
  | _ :: _, _ :: _, h => ⟨h.1, Envs.snoc hr h.2⟩
theorem Envs.len {Y : Nat → Prop} : ∀ {rs : List RE} {ms : List Env}, Envs w Y rs ms → rs.length = ms.length
  | [], [], _ => rfl
  | [], _ :: _, h => h.elim
  | _ :: _, [], h => h.elim
  | _ :: _, _ :: _, h => by rw [List.length_cons, List.length_cons, Envs.len h.2]
theorem Envs.at {Y : Nat → Prop} : ∀ {rs : List RE} {ms : List Env}, Envs w Y rs ms → ∀ (i : Nat) (h1 : i < rs.length) (h2 : i < ms.length), EnvAt w Y rs[i] ms[i]
  | [], [], _, i, h1, _ => by cases h1
  | [], _ :: _, h, _, _, _ => h.elim
  | _ :: _, [], h, _, _, _ => h.elim
  | _ :: _, _ :: _, h, 0, _, _ => h.1
  | _ :: _, _ :: _, h, i + 1, h1, h2 => Envs.at h.2 i (by simpa using h1) (by simpa using h2)
/-- the messages so far, in a slice of the call's own -/
def MailsAt (w : World) (B : Nat) (R : Roles) (v : Value) (ms : List Env) : Prop := ∃ rs, ownsG envL w B 35 v rs ∧ (∀ k, v.ownBlock = some k → R k = 0) ∧ Envs w (fun g => R g = 0 ∧ B ≤ g ∧ v.ownBlock ≠ some g) rs ms
theorem MailsAt.nil (w : World) (B : Nat) (R : Roles) : MailsAt w B R (.slice none 0 0) [] := ⟨[], ownsG.nil _ _ _ _, (fun k e => by cases e), trivial⟩
theorem ownsG.kept {α : Type} {L : Lay α} {B : Nat} {e : TypeId} {v : Value} {l : List α} (h : ownsG L w B e v l) (hk : ∀ g, v.ownBlock = some g → w'.heap[g]? = w.heap[g]?) : ownsG L w' B e v l := by
  refine ⟨h.1, ?_⟩
  rcases h.2 with hn | ⟨g, cap, cur, h1, h2, h3, h4⟩
  · exact .inl hn
  · exact .inr ⟨g, cap, cur, h1, h2, (hk g (by rw [h1]; rfl)).trans h3, h4⟩
theorem MailsAt.step {B : Nat} {R' : Roles} {v : Value} {ms : List Env} (h : MailsAt w B R v ms) (hE : Ext w R R') (f : Fr (In R) w w') : MailsAt w' B R' v ms := by
  obtain ⟨rs, h1, h2, h3⟩ := h
  have hl : ∀ k, v.ownBlock = some k → k < w.heap.size := fun k e => (World.ownsRow.lt h1 k e).2
  have hk : ∀ g, R g = 0 → g < w.heap.size → w'.heap[g]? = w.heap[g]? := fun g hR hg => f.block g hg fun e => e hR
  refine ⟨rs, ownsG.kept h1 fun g e => hk g (h2 g e) (hl g e), fun k e => (hE k (hl k e)).trans (h2 k e), Envs.keeps (fun g hg hgl => hk g hg.1 hgl) f.size (fun g hg hgl => ⟨(hE g hgl).trans hg.1, hg.2⟩) h3⟩
/-- a message more -/
theorem MailsAt.put {B : Nat} {W w3 : World} {v v' : Value} {ms : List Env} {rs : List RE} {r : RE} {m : Env} (h2 : ∀ k, v.ownBlock = some k → R k = 0) (h3 : Envs w (fun g => R g = 0 ∧ B ≤ g ∧ v.ownBlock ≠ some g) rs ms)
    (hb : Below w.heap.size w W) (hbnd : ∀ k, R k ≠ 0 → k < w.heap.size) (hr : EnvAt W (fun g => R g = 0 ∧ B ≤ g ∧ v.ownBlock ≠ some g) r m)
    (h4 : ownsG envL w3 B 35 v' (rs ++ [r])) (hg : W.grownBy w3 v.ownBlock) (hn : NewOwn W v v') : MailsAt w3 B R v' (ms ++ [m]) := by
  have hW := hb.size
  have key : ∀ g, (R g = 0 ∧ B ≤ g ∧ v.ownBlock ≠ some g) → g < W.heap.size → (R g = 0 ∧ B ≤ g ∧ v'.ownBlock ≠ some g) := fun g hg hgl => ⟨hg.1, hg.2.1, fun e => by
    rcases hn with e' | e'
    · exact hg.2.2 (by rw [← e']; exact e)
    · have := e' g e; omega⟩
  refine ⟨rs ++ [r], h4, fun k e => ?_, ?_⟩
  · rcases hn with e' | e'
    · exact h2 k (by rw [← e']; exact e)
    · by_cases hx : R k = 0
      · exact hx
      · have := hbnd k hx; have := e' k e; omega
  · have hE1 : Envs W (fun g => R g = 0 ∧ B ≤ g ∧ v.ownBlock ≠ some g) rs ms := Envs.keeps (fun g _ hgl => hb.block g hgl) hb.size (fun g hg _ => hg) h3
    exact Envs.keeps (fun g hgg hgl => hg.block g hgl (fun e => hgg.2.2 e.symm)) hg.size key (Envs.snoc hr hE1)
/-- the messages as they are handed out, in blocks from B on -/
def MailsOut (B : Nat) (w : World) (v : Value) (ms : List Env) : Prop := ∃ rs p c, v = .slice p rs.length c ∧ rs.length = ms.length ∧ Envs w (fun g => B ≤ g) rs ms ∧ ReadsR envL w (fun g => B ≤ g) v rs
theorem MailsAt.out {B : Nat} {v : Value} {ms : List Env} (h : MailsAt w B R v ms) : MailsOut B w v ms := by
  obtain ⟨rs, h1, h2, h3⟩ := h
  have hr := h1.reads (X := fun g => B ≤ g) (fun k e => (World.ownsRow.lt h1 k e).1)
  obtain ⟨p, c, e, h4, h5⟩ := hr
  exact ⟨rs, p, c, e, h3.len, Envs.keeps (fun _ _ _ => rfl) (Nat.le_refl _) (fun _ h _ => h.2.1) h3, p, c, e, h4, h5⟩
theorem MailsOut.keeps {B : Nat} {v : Value} {ms : List Env} (h : MailsOut B w v ms) (hk : ∀ g, B ≤ g → g < w.heap.size → w'.heap[g]? = w.heap[g]?) (hs : w.heap.size ≤ w'.heap.size) : MailsOut B w' v ms := by
  obtain ⟨rs, p, c, e, h1, h2, h3⟩ := h
  exact ⟨rs, p, c, e, h1, Envs.keeps hk hs (fun _ h _ => h) h2, h3.keeps hk hs (fun _ h => h)⟩
theorem MailsOut.below {B : Nat} {v : Value} {ms : List Env} (h : MailsOut B w v ms) (hb : Below w.heap.size w w') : MailsOut B w' v ms := h.keeps (fun g _ hg => hb.block g hg) hb.size
/-- strings handed in -/
def StrIn (w : World) (v : Value) (ns : List ByteArray) : Prop := (∃ p c, v = .slice p ns.length c ∧ ns.length ≤ c ∧ (ns = [] ∨ ∃ g o, p = some ⟨g, o, none⟩ ∧ ∀ j (hj : j < ns.length), w.cell? ⟨g, o + j, none⟩ = some (.string ns[j]))) ∧ ∀ x ∈ ns, x.size ≤ 1048576
theorem StrIn.below {v : Value} {ns : List ByteArray} (h : StrIn w v ns) (hb : Below w.heap.size w w') : StrIn w' v ns := by
  obtain ⟨⟨p, c, h1, h2, h3⟩, h4⟩ := h
  refine ⟨⟨p, c, h1, h2, ?_⟩, h4⟩
  rcases h3 with h3 | ⟨g, o, h5, h6⟩
  · exact .inl h3
  · exact .inr ⟨g, o, h5, fun j hj => cell_later hb (h6 j hj)⟩
/-- numbers handed in, in a block below B -/
def IntIn (k : IntKind) (B : Nat) (w : World) (v : Value) (ns : List Int) : Prop := ∃ p c, v = .slice p ns.length c ∧ ns.length ≤ c ∧ (ns = [] ∨ ∃ g o, g < B ∧ p = some ⟨g, o, none⟩ ∧ ∀ j (hj : j < ns.length), w.cell? ⟨g, o + j, none⟩ = some (.int k ns[j]))
theorem IntIn.keeps {k : IntKind} {B C : Nat} {v : Value} {ns : List Int} (h : IntIn k B w v ns) (hk : ∀ g, g < B → w'.heap[g]? = w.heap[g]?) (hC : B ≤ C) : IntIn k C w' v ns := by
  obtain ⟨p, c, h1, h2, h3⟩ := h
  refine ⟨p, c, h1, h2, ?_⟩
  rcases h3 with h3 | ⟨g, o, hg, h5, h6⟩
  · exact .inl h3
  · exact .inr ⟨g, o, by omega, h5, fun j hj => (World.cell?_of_block (hk g hg)).trans (h6 j hj)⟩
def sumZ (ns : List ByteArray) : Nat := (ns.map ByteArray.size).sum
theorem sumZ_take (ns : List ByteArray) (i : Nat) (h : i < ns.length) : sumZ (ns.take (i + 1)) = sumZ (ns.take i) + ns[i].size := by
  unfold sumZ
  rw [List.take_succ_eq_append_getElem h, List.map_append, List.sum_append]
  simp
theorem sumZ_le {ns : List ByteArray} (h : ∀ x ∈ ns, x.size ≤ 1048576) : ∀ i, sumZ (ns.take i) ≤ i * 1048576 := by
  intro i
  induction i with
  | zero => simp [sumZ]
  | succ i ih =>
    rcases Nat.lt_or_ge i ns.length with hi | hi
    · rw [sumZ_take ns i hi]
      have := h _ (List.getElem_mem hi)
      omega
    · rw [List.take_of_length_le (by omega)]
      rw [List.take_of_length_le hi] at ih
      exact Nat.le_trans ih (Nat.mul_le_mul_right _ (Nat.le_succ i))
set_option maxHeartbeats 1000000 in
set_option maxRecDepth 100000 in
theorem few_any (v : Value) (ns : List ByteArray) (h : StrIn w v ns) : Calls Tryz.prog 9 #[v] w fun e w' => ∃ B : Bool, e = .returned (.bool B) ∧ w' = w ∧ (B = true → ns.length ≤ 60 ∧ sumZ ns ≤ 6000) := by
  obtain ⟨⟨p, c, rfl, hc, hp⟩, hm⟩ := h
  have hz := sumZ_le hm
  have HM := Lib.hid hm
  clear hm
  go_enter Tryz.func9, Tryz.ntmps9
  go_wp2
  go_loopg [3, 4] (ns.length) (fun g nv iv wr => ∃ i : Nat, i + g = ns.length ∧ i ≤ 100 ∧ iv = .int .i64 i ∧ nv = .int .i64 (sumZ (ns.take i) : Nat) ∧ wr = w)
  case atStart => exact ⟨0, by omega, by omega, rfl, rfl, rfl⟩
  case round =>
    obtain ⟨i, hi, hi1, rfl, rfl, rfl⟩ := hrel
    have hzi := hz i
    by_cases hl : i < ns.length
    · by_cases h100 : i < 100
      · rcases hp with hp | ⟨g, o, rfl, hcell⟩
        · rw [hp] at hl; cases hl
        · have hx := hcell i hl
          have hzs := sumZ_take ns i hl
          have hz1 := hz (i + 1)
          obtain ⟨Sx, hSx⟩ : ∃ Sx, Sx = ns[i] := ⟨_, rfl⟩
          rw [← hSx] at hx hzs
          have u1 : decide ((i : Int) < (ns.length : Int)) = true := decide_eq_true (by omega)
          have u2 : decide ((i : Int) < 100) = true := decide_eq_true (by omega)
          have u3 : (i : Int) < (ns.length : Int) := by omega
          have u5 : IntKind.i64.wrap ((sumZ (ns.take i) : Int) + (Sx.size : Int)) = (sumZ (ns.take (i + 1)) : Int) := by rw [hzs, Int.natCast_add]; exact w64 rfl (by omega) (by omega)
          have u6 : IntKind.i64.wrap ((i : Int) + 1) = (i : Int) + 1 := w64 rfl (by omega) (by omega)
          have Hz := Lib.hid hz
          have Hc := Lib.hid hcell
          clear hzs hz1 hSx hzi hz hcell
          obtain ⟨S1, hS1⟩ : ∃ S1, S1 = sumZ (ns.take (i + 1)) := ⟨_, rfl⟩
          rw [← hS1] at u5
          have HS1 := Lib.hid hS1
          clear hS1
          go_wp2
          go_roundg (ns.length - (i + 1))
          case rel => exact ⟨i + 1, by omega, by omega, rfl, by rw [HS1.out], rfl⟩
          case measure => omega
      · have u1 : decide ((i : Int) < (ns.length : Int)) = true := decide_eq_true (by omega)
        have u2 : decide ((i : Int) < 100) = false := decide_eq_false (by omega)
        have u3 : decide ((ns.length : Int) ≤ 60) = false := decide_eq_false (by omega)
        clear hz hzi hp
        go_wp2
        go_ret
        exact ⟨_, rfl, rfl, fun e => by cases e⟩
    · have u1 : decide ((i : Int) < (ns.length : Int)) = false := decide_eq_false (by omega)
      have hil : i = ns.length := by omega
      have hS : ns.take i = ns := by rw [hil, List.take_length]
      rw [hS] at *
      clear hz hzi hp hS
      by_cases h60 : ns.length ≤ 60
      · have u3 : decide ((ns.length : Int) ≤ 60) = true := decide_eq_true (by omega)
        obtain ⟨D, hD⟩ : ∃ D, D = decide ((sumZ ns : Int) ≤ 6000) := ⟨_, rfl⟩
        have HD := Lib.hid hD
        clear hil
        go_wp2
        go_ret
        refine ⟨_, rfl, rfl, fun e => ⟨h60, ?_⟩⟩
        have := of_decide_eq_true e
        omega
      · have u3 : decide ((ns.length : Int) ≤ 60) = false := decide_eq_false (by omega)
        clear hil
        go_wp2
        go_ret
        exact ⟨_, rfl, rfl, fun e => by cases e⟩
end
end Go.Proofs.YtjoipgekmnnlpaaGreatDoor
namespace Go.Proofs.YtjoipgekmnnlpaaGreatDoor
open Go.RowKit Go.Shelf Go.Lib Pk Sm

section
variable {w w' : World}
/-- the two boxes that Same lays, and the recipients -/
def SmB (b1 b2 : Nat) (f b : ByteArray) (p1 p2 : Option Addr) (n c1 c2 : Nat) (V : World) : Prop :=
  (V.cell? ⟨b1, 0, none⟩ = some (.string f) ∧ V.cell? ⟨b1, 1, none⟩ = some (.slice p1 n c1) ∧ V.cell? ⟨b1, 2, none⟩ = some (.string b)) ∧ V.cell? ⟨b2, 0, none⟩ = some (.string f) ∧ V.cell? ⟨b2, 1, none⟩ = some (.slice p2 n c2) ∧ V.cell? ⟨b2, 2, none⟩ = some (.string b)
theorem rcp_cells {Y : Nat → Prop} {p : Option Addr} {n c : Nat} {l : List ByteArray} (h : ReadsR txL w Y (.slice p n c) l) : n = l.length ∧ l.length ≤ c ∧ (l = [] ∨ ∃ g o, p = some ⟨g, o, none⟩ ∧ ∀ j (hj : j < l.length), w.cell? ⟨g, o + j, none⟩ = some (.string l[j])) := by
  obtain ⟨p', c', e, h1, h2⟩ := h
  injection e with e1 e2 e3
  subst e1; subst e2; subst e3
  refine ⟨rfl, h1, ?_⟩
  rcases h2 with h2 | ⟨g, o, h4, -, -, h5⟩
  · exact .inl h2
  · exact .inr ⟨g, o, h4, fun j hj => by have := h5 j hj 0 (.string l[j]) rfl; rw [show j * txL.k = j from Nat.mul_one j] at this; exact this⟩
def RcpC (w : World) (p : Option Addr) (l : List ByteArray) : Prop := l = [] ∨ ∃ g o, p = some ⟨g, o, none⟩ ∧ ∀ j (hj : j < l.length), w.cell? ⟨g, o + j, none⟩ = some (.string l[j])
set_option maxHeartbeats 2000000 in
set_option maxRecDepth 100000 in
theorem same_raw (F Bb : ByteArray) (p1 p2 : Option Addr) (c1 c2 : Nat) (L : List ByteArray) (q3 : RcpC w p1 L) (q6 : RcpC w p2 L) (hN : L.length ≤ 1000000) :
    Calls Tryz.prog 18 #[.agg #[.string F, .slice p1 L.length c1, .string Bb], .agg #[.string F, .slice p2 L.length c2, .string Bb]] w fun e w' => e = .returned (.bool true) ∧ Below w.heap.size w w' := by
  have H3 := Lib.hid (And.intro q3 q6)
  clear q3 q6
  go_enter Tryz.func18, Tryz.ntmps18
  go_wp2_with fail
  have hb2 : Below w.heap.size w ((w.alloc (.cells #[.string F, .slice p1 L.length c1, .string Bb] 35)).alloc (.cells #[.string F, .slice p2 L.length c2, .string Bb] 35)) := ((Below.refl _ _).alloc (Nat.le_refl _) _).alloc (by simp) _
  have hk1 : ((w.alloc (.cells #[.string F, .slice p1 L.length c1, .string Bb] 35)).alloc (.cells #[.string F, .slice p2 L.length c2, .string Bb] 35)).heap[w.heap.size]? = some (.cells #[.string F, .slice p1 L.length c1, .string Bb] 35 (0, 0)) := (heap_alloc_old _ _ (by simp)).trans (heap_alloc_new w _)
  have hk2 : ((w.alloc (.cells #[.string F, .slice p1 L.length c1, .string Bb] 35)).alloc (.cells #[.string F, .slice p2 L.length c2, .string Bb] 35)).heap[w.heap.size + 1]? = some (.cells #[.string F, .slice p2 L.length c2, .string Bb] 35 (0, 0)) := by
    have := heap_alloc_new (w.alloc (.cells #[.string F, .slice p1 L.length c1, .string Bb] 35)) (.cells #[.string F, .slice p2 L.length c2, .string Bb] 35)
    rwa [World.size_alloc] at this
  generalize ((w.alloc (.cells #[.string F, .slice p1 L.length c1, .string Bb] 35)).alloc (.cells #[.string F, .slice p2 L.length c2, .string Bb] 35)) = W2 at *
  have hst : W2.cell? ⟨w.heap.size, 1, none⟩ = some (.slice p1 L.length c1) ∧ W2.cell? ⟨w.heap.size + 1, 1, none⟩ = some (.slice p2 L.length c2) ∧ Below w.heap.size w W2 := ⟨(Lib.cell_of_heap hk1 _).trans rfl, (Lib.cell_of_heap hk2 _).trans rfl, hb2⟩
  clear hk1 hk2 hb2
  go_loopg [5] (L.length) (fun g iv wr => ∃ i : Nat, i + g = L.length ∧ iv = .int .i64 i ∧ wr.cell? ⟨w.heap.size, 1, none⟩ = some (.slice p1 L.length c1) ∧ wr.cell? ⟨w.heap.size + 1, 1, none⟩ = some (.slice p2 L.length c2) ∧ Below w.heap.size w wr)
  case atStart => exact ⟨0, by omega, rfl, hst.1, hst.2.1, hst.2.2⟩
  case round =>
    obtain ⟨i, hi, rfl, hx1, hx2, hbw⟩ := hrel
    clear hst
    by_cases hl : i < L.length
    · rcases H3.out.1 with hp | ⟨g1, o1, rfl, hcell1⟩
      · rw [hp] at hl; cases hl
      · rcases H3.out.2 with hp | ⟨g2, o2, rfl, hcell2⟩
        · rw [hp] at hl; cases hl
        · have hy1 : wr.cell? ⟨g1, o1 + i, none⟩ = some (.string L[i]) := cell_later hbw (hcell1 i hl)
          have hy2 : wr.cell? ⟨g2, o2 + i, none⟩ = some (.string L[i]) := cell_later hbw (hcell2 i hl)
          obtain ⟨Sx, hSx⟩ : ∃ Sx, Sx = L[i] := ⟨_, rfl⟩
          rw [← hSx] at hy1 hy2
          have u1 : decide ((i : Int) < (L.length : Int)) = true := decide_eq_true (by omega)
          have u3 : (i : Int) < (L.length : Int) := by omega
          have u6 : IntKind.i64.wrap ((i : Int) + 1) = (i : Int) + 1 := w64 rfl (by omega) (by omega)
          have HB := Lib.hid hbw
          clear hSx hcell1 hcell2 hbw
          go_wp2_with fail
          refine wp_region_heldO (fun V => V.cell? ⟨w.heap.size, 1, none⟩ = some (.slice (some ⟨g1, o1, none⟩) L.length c1) ∧ V.cell? ⟨w.heap.size + 1, 1, none⟩ = some (.slice (some ⟨g2, o2, none⟩) L.length c2) ∧ V.cell? ⟨g1, o1 + i, none⟩ = some (.string Sx) ∧ V.cell? ⟨g2, o2 + i, none⟩ = some (.string Sx)) 11 (by kernel_rfl) rfl ⟨hx1, hx2, hy1, hy2⟩ (fun hHeld => ?_)
          refine takeO (v := ?_) 0 rfl (by kernel_rfl) (by kernel_rfl) (by kernel_rfl) (by rfl) ?_ hHeld ?_
          rotate_left
          · intro w hSw
            obtain ⟨hSw0, hSw1, hSw2, hSw3⟩ := hSw
            go_simp
            first | done | with_reducible rfl
          simp only [Act.put, List.setIfInBounds_toArray, List.set_cons_zero, List.set_cons_succ]
          refine takeO (v := ?_) 1 rfl (by kernel_rfl) (by kernel_rfl) (by kernel_rfl) (by rfl) ?_ hHeld ?_
          rotate_left
          · intro w hSw
            obtain ⟨hSw0, hSw1, hSw2, hSw3⟩ := hSw
            go_simp
            first | done | with_reducible rfl
          simp only [Act.put, List.setIfInBounds_toArray, List.set_cons_zero, List.set_cons_succ]
          refine takeO (v := ?_) 2 rfl (by kernel_rfl) (by kernel_rfl) (by kernel_rfl) (by rfl) ?_ hHeld ?_
          rotate_left
          · intro w hSw
            obtain ⟨hSw0, hSw1, hSw2, hSw3⟩ := hSw
            go_simp
            first | done | with_reducible rfl
          simp only [Act.put, List.setIfInBounds_toArray, List.set_cons_zero, List.set_cons_succ]
          refine takeO (v := ?_) 3 rfl (by kernel_rfl) (by kernel_rfl) (by kernel_rfl) (by rfl) ?_ hHeld ?_
          rotate_left
          · intro w hSw
            obtain ⟨hSw0, hSw1, hSw2, hSw3⟩ := hSw
            go_simp
            first | done | with_reducible rfl
          simp only [Act.put, List.setIfInBounds_toArray, List.set_cons_zero, List.set_cons_succ]
          refine takeO (v := ?_) 4 rfl (by kernel_rfl) (by kernel_rfl) (by kernel_rfl) (by rfl) ?_ hHeld ?_
          rotate_left
          · intro w hSw
            obtain ⟨hSw0, hSw1, hSw2, hSw3⟩ := hSw
            go_simp
            first | done | with_reducible rfl
          simp only [Act.put, List.setIfInBounds_toArray, List.set_cons_zero, List.set_cons_succ]
          refine takeO (v := ?_) 5 rfl (by kernel_rfl) (by kernel_rfl) (by kernel_rfl) (by rfl) ?_ hHeld ?_
          rotate_left
          · intro w hSw
            obtain ⟨hSw0, hSw1, hSw2, hSw3⟩ := hSw
            go_simp
            first | done | with_reducible rfl
          simp only [Act.put, List.setIfInBounds_toArray, List.set_cons_zero, List.set_cons_succ]
          refine takeO (v := ?_) 6 rfl (by kernel_rfl) (by kernel_rfl) (by kernel_rfl) (by rfl) ?_ hHeld ?_
          rotate_left
          · intro w hSw
            obtain ⟨hSw0, hSw1, hSw2, hSw3⟩ := hSw
            go_simp
            first | done | with_reducible rfl
          simp only [Act.put, List.setIfInBounds_toArray, List.set_cons_zero, List.set_cons_succ]
          refine takeO (v := ?_) 7 rfl (by kernel_rfl) (by kernel_rfl) (by kernel_rfl) (by rfl) ?_ hHeld ?_
          rotate_left
          · intro w hSw
            obtain ⟨hSw0, hSw1, hSw2, hSw3⟩ := hSw
            go_simp
            first | done | with_reducible rfl
          simp only [Act.put, List.setIfInBounds_toArray, List.set_cons_zero, List.set_cons_succ]
          refine takeO (v := ?_) 8 rfl (by kernel_rfl) (by kernel_rfl) (by kernel_rfl) (by rfl) ?_ hHeld ?_
          rotate_left
          · intro w hSw
            obtain ⟨hSw0, hSw1, hSw2, hSw3⟩ := hSw
            go_simp
            first | done | with_reducible rfl
          simp only [Act.put, List.setIfInBounds_toArray, List.set_cons_zero, List.set_cons_succ]
          refine takeO (v := ?_) 9 rfl (by kernel_rfl) (by kernel_rfl) (by kernel_rfl) (by rfl) ?_ hHeld ?_
          rotate_left
          · intro w hSw
            obtain ⟨hSw0, hSw1, hSw2, hSw3⟩ := hSw
            go_simp
            first | done | with_reducible rfl
          simp only [Act.put, List.setIfInBounds_toArray, List.set_cons_zero, List.set_cons_succ]
          refine takeO (v := ?_) 10 rfl (by kernel_rfl) (by kernel_rfl) (by kernel_rfl) (by rfl) ?_ hHeld ?_
          rotate_left
          · intro w hSw
            obtain ⟨hSw0, hSw1, hSw2, hSw3⟩ := hSw
            go_simp
            first | done | with_reducible rfl
          simp only [Act.put, List.setIfInBounds_toArray, List.set_cons_zero, List.set_cons_succ]
          refine doneO (by kernel_rfl) ?_
          go_wp2
          go_roundg (L.length - (i + 1))
          case rel => exact ⟨i + 1, by omega, rfl, hx1, hx2, HB.out.drew⟩
          case measure => omega
    · have u1 : decide ((i : Int) < (L.length : Int)) = false := decide_eq_false (by omega)
      have HB := Lib.hid hbw
      clear hbw
      go_wp2
      go_ret
      exact ⟨rfl, HB.out⟩
theorem same_any {Y Z : Nat → Prop} (r1 r2 : RE) (m : Env) (h1 : EnvAt w Y r1 m) (h2 : EnvAt w Z r2 m) (hm : m.rcp.length ≤ 1000000) : Calls Tryz.prog 18 #[r1.val, r2.val] w fun e w' => e = .returned (.bool true) ∧ Below w.heap.size w w' := by
  obtain ⟨f1, p1, n1, c1, b1⟩ := r1
  obtain ⟨f2, p2, n2, c2, b2⟩ := r2
  obtain ⟨e1, e2, h3⟩ := h1
  obtain ⟨e3, e4, h4⟩ := h2
  replace e1 : f1 = bt m.frm := e1
  replace e2 : b1 = bt m.byt := e2
  replace e3 : f2 = bt m.frm := e3
  replace e4 : b2 = bt m.byt := e4
  subst e1; subst e2; subst e3; subst e4
  obtain ⟨q1, q2, q3⟩ := rcp_cells h3
  obtain ⟨q4, q5, q6⟩ := rcp_cells h4
  replace q1 : n1 = (m.rcp.map bt).length := q1
  replace q4 : n2 = (m.rcp.map bt).length := q4
  subst q1; subst q4
  exact same_raw _ _ p1 p2 c1 c2 _ q3 q6 (by rw [List.length_map]; exact hm)
end
end Go.Proofs.YtjoipgekmnnlpaaGreatDoor
namespace Go.Proofs.YtjoipgekmnnlpaaGreatDoor
open Go.RowKit Go.Shelf Go.Lib Pk Sm

/-- within a drain -/
structure DrI (G : Nat) (w wr : World) (sb most : Nat) (R0 R : Roles) (a : Acc) (mv : Value) : Prop where
  ses : SesAt G wr sb most a.s R
  G0 : G ≤ w.heap.size
  ext : Ext w R0 R
  frm : Fr (In R0) w wr
  mls : MailsAt wr w.heap.size R mv a.mails
  gd : Gd most a.s
  wt : a.out.length + wt a.s ≤ 50000000
  ml : a.mails.length ≤ 1000000
section
variable {G : Nat} {w wr w' : World} {sb most : Nat} {R0 R : Roles} {a : Acc} {mv : Value} {m : Env}
/-- behind Mail and the append -/
structure DrM (G : Nat) (w w3 : World) (sb most : Nat) (R0 R : Roles) (a : Acc) (mv : Value) (m : Env) : Prop where
  ses : SesAt G w3 sb most a.s R
  ext : Ext w R0 R
  frm : Fr (In R0) w w3
  mls : MailsAt w3 w.heap.size R mv (a.mails ++ [m])
theorem in_ext {w : World} {R0 R : Roles} (h : Ext w R0 R) : ∀ g, In R g → In R0 g ∨ w.heap.size ≤ g := fun g hg => by
  rcases Nat.lt_or_ge g w.heap.size with hl | hl
  · exact .inl (by unfold In at *; rw [← h g hl]; exact hg)
  · exact .inr hl
theorem DrI.mail (h : DrI G w wr sb most R0 R a mv) {w1 W w3 : World} {r : RE} {m : Env} {mv' : Value} {rs : List RE} (h1 : ownsG envL w1 w.heap.size 35 mv rs) (h2 : ∀ k, mv.ownBlock = some k → R k = 0) (h3 : Envs w1 (fun g => R g = 0 ∧ w.heap.size ≤ g ∧ mv.ownBlock ≠ some g) rs a.mails)
    (hs1 : SesAt G w1 sb most a.s R) (f1 : Fr (In R) wr w1) (hr : EnvAt w1 (fun g => R g = 0 ∧ wr.heap.size ≤ g) r m) (hlt : ∀ k, mv.ownBlock = some k → k < wr.heap.size) (hb : Below w1.heap.size w1 W)
    (h4 : ownsG envL w3 w.heap.size 35 mv' (rs ++ [r])) (hg : W.grownBy w3 mv.ownBlock) (hn : NewOwn W mv mv') : DrM G w w3 sb most R0 R a mv' m := by
  have hz := h.frm.size
  have hz1 := f1.size
  have hzW := hb.size
  have hb3 : ∀ k, k < w1.heap.size → R k ≠ 0 → w3.heap[k]? = w1.heap[k]? := fun k hk hR => (hg.block k (by omega) fun e => hR (h2 k e.symm)).trans (hb.block k hk)
  have hf3 : Fr (In R0) w w3 := by
    have g1 : Fr (In R0) w W := (h.frm.trans f1 (in_ext h.ext)).then hb
    exact g1.grown hg fun k e => .inr (by have := (World.ownsRow.lt h1 k e).1; omega)
  have hc3 : Ctx G w3 := hs1.ctx.fr (X := fun k => mv.ownBlock = some k) (fun k e => by have := (World.ownsRow.lt h1 k e).1; have := h.G0; omega) ((Fr.of_below hb).grown hg (fun r e => .inl e))
  refine ⟨hs1.kept hc3 hb3 (Nat.le_trans hb.size hg.size), h.ext, hf3, ?_⟩
  refine MailsAt.put h2 h3 hb (fun k hk => (hs1.bnd k hk).2) ?_ h4 hg hn
  exact hr.keepsB (fun g _ hgl => hb.block g hgl) hb.size (fun g hgg _ => ⟨hgg.1, by omega, fun e => by have := hlt g e; omega⟩)
theorem DrM.step (h : DrM G w wr sb most R0 R a mv m) {s' : Whl} (hs : Stp G wr sb most R w' s') : ∃ R', DrM G w w' sb most R0 R' { a with s := s' } mv m := by
  obtain ⟨R', s1, s2, s3⟩ := hs
  have hz := h.frm.size
  exact ⟨R', s1, h.ext.trans (fun k hk => s2 k hk) hz, h.frm.trans s3 (in_ext h.ext), h.mls.step s2 s3⟩
theorem DrM.done (h : DrM G w wr sb most R0 R a mv m) (hG : G ≤ w.heap.size) {out : List UInt8} (hg : Gd most a.s) (hw : out.length + Sm.wt a.s ≤ 50000000) (hm : (a.mails ++ [m]).length ≤ 1000000) : DrI G w wr sb most R0 R ⟨a.s, out, a.mails ++ [m]⟩ mv :=
  ⟨h.ses, hG, h.ext, h.frm, h.mls, hg, hw, hm⟩
theorem mldAgg (h : SesAt G w sb most a.s R) (hi : Inv most a.s.st) (hbl : (a.s.st.body.getD []).length ≤ 100000000) : Calls Tryz.prog 19 #[.pointer (some ⟨sb, 0, none⟩)] w fun e w' => ∃ f p n c b, e = .returned (.agg #[.string f, .slice p n c, .string b]) ∧ EnvAt w' (fun g => R g = 0 ∧ w.heap.size ≤ g) ⟨f, p, n, c, b⟩ (envOf a.s.st) ∧ SesAt G w' sb most a.s R ∧ Fr (In R) w w' := by
  refine (mailA_any h hi hbl).mono ?_
  rintro e w' ⟨⟨f, p, n, c, b⟩, he, h1⟩
  exact ⟨f, p, n, c, b, he, h1⟩
def anL (ans : List Int) (n : Nat) : Int := ans.getD n 0
/-- one round of a drain, in plain words -/
def rndW (most : Nat) (an : Nat → Int) (a : Acc) : Acc :=
  ⟨(feedW most { a.s with st := (answerW a.s.st (an a.mails.length)).1 } []).1, a.out ++ (answerW a.s.st (an a.mails.length)).2 ++ (feedW most { a.s with st := (answerW a.s.st (an a.mails.length)).1 } []).2, a.mails ++ [envOf a.s.st]⟩
theorem drain_rnd (most : Nat) (an : Nat → Int) (k : Nat) (a : Acc) (h : a.s.st.waits = true) : drainW most an (k + 1) a = drainW most an k (rndW most an a) := by
  rw [drainW_succ, if_neg (by rw [h]; decide)]
  rfl
theorem drain_end (most : Nat) (an : Nat → Int) (k : Nat) (a : Acc) (h : k = 0 ∨ a.s.st.waits = false) : drainW most an k a = a := by
  cases k with
  | zero => rfl
  | succ k =>
    rcases h with h | h
    · cases h
    · rw [drainW_succ, if_pos h]
theorem rnd_gd {N : Nat} (hm : most ≤ 65536) (an : Nat → Int) (hg : Gd most a.s) (hw : a.out.length + Sm.wt a.s ≤ N) : Gd most (rndW most an a).s ∧ (rndW most an a).out.length + Sm.wt (rndW most an a).s ≤ N := by
  have h1 := hg.answer (an a.mails.length)
  have h2 : (answerW a.s.st (an a.mails.length)).2.length + Sm.wt ⟨(answerW a.s.st (an a.mails.length)).1, a.s.rest, a.s.kept⟩ ≤ Sm.wt a.s := answer_wt' (s := a.s) (an a.mails.length)
  have h3 : (feedW most ⟨(answerW a.s.st (an a.mails.length)).1, a.s.rest, a.s.kept⟩ []).2.length + Sm.wt (feedW most ⟨(answerW a.s.st (an a.mails.length)).1, a.s.rest, a.s.kept⟩ []).1 ≤ Sm.wt ⟨(answerW a.s.st (an a.mails.length)).1, a.s.rest, a.s.kept⟩ + 2000 * 0 := feed_wt hm h1 []
  refine ⟨h1.feed [], ?_⟩
  show (a.out ++ (answerW a.s.st (an a.mails.length)).2 ++ (feedW most ⟨(answerW a.s.st (an a.mails.length)).1, a.s.rest, a.s.kept⟩ []).2).length + Sm.wt (feedW most ⟨(answerW a.s.st (an a.mails.length)).1, a.s.rest, a.s.kept⟩ []).1 ≤ _
  rw [List.length_append, List.length_append]
  omega
/-- what a drain hands out -/
def DrnIs (G : Nat) (w : World) (sb most : Nat) (R0 : Roles) (a : Acc) (e : Ending) (w' : World) : Prop := ∃ mv, e = .returned (.tuple #[.string (bt a.out), mv]) ∧ MailsOut w.heap.size w' mv a.mails ∧ Stp G w sb most R0 w' a.s
set_option maxHeartbeats 4000000 in
set_option maxRecDepth 100000 in
theorem drained_any (s : Whl) (y : ByteArray) (av : Value) (ans : List Int) (h : SesAt G w sb most s R0) (hm : most ≤ 65536) (hg : Gd most s) (hy : y.size ≤ 10000) (hw : Sm.wt s ≤ 10000000) (hA : IntIn .i64 G w av ans) :
    Calls Tryz.prog 24 #[.pointer (some ⟨sb, 0, none⟩), .string y, av] w (DrnIs G w sb most R0 (chunkW most (anL ans) 3100 ⟨s, [], []⟩ y.data.toList)) := by
  have hyl : y.data.toList.length = y.size := rfl
  have hFd := feed_any h hm hg y (by omega) (by omega)
  have hG0 := h.ctx.le
  have HBn := Lib.hid (fun k (e : In R0 k) => (h.bnd k e).1)
  have hgf := hg.feed y.data.toList
  have hwf := feed_wt hm hg y.data.toList
  obtain ⟨pA, cA, rfl, hcA, hA2⟩ := hA
  have HA2 := Lib.hid hA2
  obtain ⟨FA, hFA⟩ : ∃ FA, FA = feedW most s y.data.toList := ⟨_, rfl⟩
  have e0 : chunkW most (anL ans) 3100 ⟨s, [], []⟩ y.data.toList = drainW most (anL ans) 3100 ⟨FA.1, FA.2, []⟩ := by rw [hFA]; rfl
  rw [e0]
  rw [← hFA] at hFd hgf hwf
  obtain ⟨F, hF⟩ : ∃ F, F = drainW most (anL ans) 3100 ⟨FA.1, FA.2, []⟩ := ⟨_, rfl⟩
  rw [← hF]
  have hF0 : Hid (drainW most (anL ans) 3100 ⟨FA.1, FA.2, []⟩ = F) := hF.symm
  obtain ⟨O1, hO1, hO1d, hO1s⟩ := bt_ex FA.2
  unfold FedIs at hFd
  rw [← hO1] at hFd
  have HFd := Lib.hid hFd
  have HG := Lib.hid (And.intro hm (And.intro hgf (And.intro hwf (And.intro hG0 (And.intro hO1 (And.intro hO1s (And.intro hw (And.intro hyl hy))))))))
  clear h hm hg hy hw hFd hgf hwf hG0 hFA hO1 hO1d hO1s hyl hA2 e0 hF
  go_enter Tryz.func24, Tryz.ntmps24
  go_wp2_with fail
  refine HFd.out.mono ?_
  rintro e w1 ⟨rfl, R1, s1, s2, s3⟩
  have hst : Hid (DrI G w w1 sb most R0 R1 ⟨FA.1, FA.2, []⟩ (.slice none 0 0)) := ⟨s1, HG.out.2.2.2.1, s2, s3, MailsAt.nil _ _ _, HG.out.2.1, by have h1 := HG.out; show FA.2.length + Sm.wt FA.1 ≤ _; omega, Nat.zero_le _⟩
  clear s1 s2 s3
  have HO := Lib.hid (show O1 = bt (Acc.mk FA.1 FA.2 []).out ∧ 0 ≤ 0 from ⟨HG.out.2.2.2.2.1, Nat.le_refl _⟩)
  go_wp2_with fail
  go_loopg [8, 9, 10, 11] 3100 (fun g ov wv mv kv wr => ∃ (k : Nat) (a : Acc) (R : Roles) (O : ByteArray), k + g = 3100 ∧ a.mails.length ≤ k ∧ kv = .int .i64 k ∧ ov = .string O ∧ wv = .bool a.s.st.waits ∧ Hid (O = bt a.out ∧ 0 ≤ 0) ∧ Hid (DrI G w wr sb most R0 R a mv) ∧ Hid (drainW most (anL ans) g a = F))
  case atStart => exact ⟨0, _, R1, O1, rfl, Nat.le_refl _, rfl, rfl, rfl, HO, hst, hF0⟩
  case round =>
    clear hst hF0 HO
    obtain ⟨k, a, R, O, hk, hak, rfl, rfl, rfl, HO, hI, hD⟩ := hrel
    obtain ⟨rsx, mx1, -, mx3⟩ := hI.out.mls
    obtain ⟨pmx, cmx, hmvx, -⟩ := (mx1.sees (Nat.le_refl _)).form
    have hrx : rsx.length = a.mails.length := mx3.len
    rw [hrx] at hmvx
    subst hmvx
    have hml := hI.out.ml
    clear mx1 mx3 hrx
    by_cases hk1 : k < 3100
    · have u1 : decide ((k : Int) < 3100) = true := decide_eq_true (by omega)
      cases hw : a.s.st.waits with
      | false =>
        have hFa : F = a := by rw [← hD.out]; exact drain_end _ _ _ _ (.inr hw)
        have HFa := Lib.hid hFa.symm
        clear hFa hml
        go_wp2
        go_ret2
        have hMo := hI.out.mls.out
        rw [← HFa.out]
        refine ⟨.slice pmx a.mails.length cmx, ?_, hMo, R, hI.out.ses, hI.out.ext, hI.out.frm⟩
        rw [HO.out.1]
        rfl
      | true =>
        have u6 : IntKind.i64.wrap ((k : Int) + 1) = (k : Int) + 1 := w64 rfl (by omega) (by omega)
        have HK := Lib.hid (And.intro hk (And.intro hk1 (And.intro hw hak)))
        by_cases hlt : a.mails.length < ans.length
        · have u2 : decide ((a.mails.length : Int) < (ans.length : Int)) = true := decide_eq_true (by omega)
          have u3 : (a.mails.length : Int) < (ans.length : Int) := by omega
          rcases HA2.out with hA | ⟨gA, oA, hgA, rfl, hcA2⟩
          · rw [hA] at hlt; cases hlt
          · have hcell : wr.cell? ⟨gA, oA + a.mails.length, none⟩ = some (.int .i64 ans[a.mails.length]) := (World.cell?_of_block (hI.out.frm.block gA (by have := HG.out.2.2.2.1; omega) (fun e => by have := HBn.out gA e; omega))).trans (hcA2 _ hlt)
            have e1 : ans[a.mails.length] = anL ans a.mails.length := by unfold anL; rw [List.getD_eq_getElem?_getD, List.getElem?_eq_getElem hlt]; rfl
            rw [e1] at hcell
            clear e1 hcA2 hlt hk hk1 hw hml
            have hwl := hI.out.wt
            have hbl : (a.s.st.body.getD []).length ≤ 100000000 := by unfold Sm.wt wtS at hwl; omega
            have HM := Lib.hid (mldAgg hI.out.ses hI.out.gd.inv hbl)
            clear hbl hwl
            go_wp2_with fail
            refine HM.out.mono ?_
            rintro e w2 ⟨rf, rp, rn, rc, rb, rfl, hr1, hs1, f1⟩
            obtain ⟨rs, m1, m2, m3⟩ := hI.out.mls.step (Ext.refl _ _) f1
            have hml := hI.out.ml
            have hrl : rs.length = a.mails.length := m3.len
            have hmlt : ∀ k, (Value.slice pmx a.mails.length cmx).ownBlock = some k → k < wr.heap.size := by
              obtain ⟨rs0, n1, -, -⟩ := hI.out.mls
              exact fun k e => (World.ownsRow.lt n1 k e).2
            have hwz : w.heap.size ≤ w2.heap.size := Nat.le_trans hI.out.frm.size f1.size
            have HRl := Lib.hid (And.intro hrl (And.intro hml hwz))
            have HMX := Lib.hid (And.intro m1 (And.intro m2 (And.intro m3 (And.intro hs1 (And.intro f1 (And.intro hr1 hmlt))))))
            clear m1 m2 m3 hs1 f1 hr1 hmlt hrl hml hwz
            go_wp2_with (first
              | (at_builtin; refine append_n _ rfl (.tmp 38) (.tmp 41) envG rfl w.heap.size (.slice pmx a.mails.length cmx) rs rfl (HMX.out.1.alloc _) ⟨w2.heap.size, 0, none⟩ [(⟨rf, rp, rn, rc, rb⟩ : RE)] 1 1 rfl rfl (cells_new w2 [.string rf, .slice rp rn rc, .string rb] _) (by have := HRl.out; omega) (by have := HRl.out; omega) (by have := HRl.out; simp; omega) ?_; intro mv3 w3 hown3 hg3 hn3; have hDM := hI.out.mail HMX.out.1 HMX.out.2.1 HMX.out.2.2.1 HMX.out.2.2.2.1 HMX.out.2.2.2.2.1 HMX.out.2.2.2.2.2.1 HMX.out.2.2.2.2.2.2 ((Below.refl _ _).alloc (Nat.le_refl _) _) hown3 hg3 hn3; have HDM := Lib.hid hDM; clear hDM hown3 hg3 hn3)
              | fail)
            obtain ⟨AW, hAW⟩ : ∃ AW, AW = answerW a.s.st (anL ans a.mails.length) := ⟨_, rfl⟩
            obtain ⟨FW, hFW⟩ : ∃ FW, FW = feedW most ⟨AW.1, a.s.rest, a.s.kept⟩ [] := ⟨_, rfl⟩
            have hrnd : rndW most (anL ans) a = ⟨FW.1, a.out ++ AW.2 ++ FW.2, a.mails ++ [envOf a.s.st]⟩ := by unfold rndW; rw [hFW, hAW]
            obtain ⟨r1, r2⟩ := rnd_gd HG.out.1 (anL ans) hI.out.gd hI.out.wt
            rw [hrnd] at r1 r2
            have hAn := ses_answer HDM.out.ses (anL ans a.mails.length)
            have hga := hI.out.gd.answer (anL ans a.mails.length)
            have hwa := answer_wt' (s := a.s) (anL ans a.mails.length)
            rw [← hAW] at hAn hga hwa
            have hwi := hI.out.wt
            obtain ⟨TA, hTA, hTAd, hTAs⟩ := bt_ex AW.2
            obtain ⟨TF, hTF, hTFd, hTFs⟩ := bt_ex FW.2
            unfold StpT at hAn
            rw [← hTA] at hAn
            skip
            have hOs : O.size = a.out.length := by rw [HO.out.1]; exact (bt_ex a.out).elim fun A h => by rw [← h.1]; exact h.2.2
            have hsum : O.size + TA.size + TF.size ≤ 50000000 := by
              have := r2
              rw [List.length_append, List.length_append] at this
              omega
            have u7 : ¬ 9223372036854775807 < O.size + TA.size := by omega
            have u8 : ¬ 9223372036854775807 < O.size + TA.size + TF.size := by omega
            have HX := Lib.hid (And.intro hga (And.intro hrnd (And.intro r1 (And.intro r2 (And.intro hFW.symm (And.intro hTF (And.intro hTA (show Sm.wt ⟨AW.1, a.s.rest, a.s.kept⟩ ≤ 50000000 from by have h9 : AW.2.length + Sm.wt ⟨AW.1, a.s.rest, a.s.kept⟩ ≤ Sm.wt a.s := hwa; omega))))))))
            have HAn := Lib.hid hAn
            clear hAn hga hrnd r1 r2 hFW hTF hTA hTAd hTAs hTFd hTFs hsum hwa hwi hOs hAW
            go_wp2_with fail
            refine HAn.out.mono ?_
            rintro e w4 ⟨rfl, hst4⟩
            obtain ⟨R4, hD4⟩ := HDM.out.step hst4
            have hF5 := feed_any (chunk := ⟨#[]⟩) hD4.ses HG.out.1 HX.out.1 (by decide) (by have h9 := HX.out.2.2.2.2.2.2.2; show Sm.wt ⟨AW.1, a.s.rest, a.s.kept⟩ + 2000 * 0 ≤ _; omega)
            have hF5' : Calls Tryz.prog 14 #[.pointer (some ⟨sb, 0, none⟩), .string ⟨#[]⟩] w4 (FedIs G w4 sb most R4 FW) := by
              have e9 := HX.out.2.2.2.2.1
              rw [← e9]; exact hF5
            unfold FedIs at hF5'
            rw [← HX.out.2.2.2.2.2.1] at hF5'
            have HF5 := Lib.hid hF5'
            have HD4 := Lib.hid hD4
            clear hF5 hF5' hD4 hst4
            go_wp2_with fail
            refine HF5.out.mono ?_
            rintro e w5 ⟨rfl, hst5⟩
            obtain ⟨R5, hD5⟩ := HD4.out.step hst5
            have hI5 := hD5.done (out := a.out ++ AW.2 ++ FW.2) hI.out.G0 HX.out.2.2.1 HX.out.2.2.2.1 (by have h9 := HRl.out; show (a.mails ++ [envOf a.s.st]).length ≤ 1000000; rw [List.length_append, List.length_singleton]; have h8 := HK.out; omega)
            have HI5 := Lib.hid hI5
            clear hD5 hI5 hst5
            go_wp2
            go_roundg (3100 - (k + 1))
            case rel =>
              refine ⟨k + 1, ⟨FW.1, a.out ++ AW.2 ++ FW.2, a.mails ++ [envOf a.s.st]⟩, R5, O ++ TA ++ TF, by have := HK.out.2.1; omega, by have := HK.out.2.2.2; show (a.mails ++ [envOf a.s.st]).length ≤ _; rw [List.length_append, List.length_singleton]; omega, rfl, rfl, rfl, ?_, HI5, ?_⟩
              · refine ⟨?_, Nat.le_refl _⟩
                rw [HO.out.1, HX.out.2.2.2.2.2.2.1, HX.out.2.2.2.2.2.1, bt_app, bt_app]
              · rw [← HX.out.2.1]
                have h9 := hD.out
                have hg9 : gk = (3100 - (k + 1)) + 1 := by have := HK.out; omega
                rw [hg9, drain_rnd _ _ _ _ HK.out.2.2.1] at h9
                exact h9
            case measure => have := HK.out; omega
        · have u2 : decide ((a.mails.length : Int) < (ans.length : Int)) = false := decide_eq_false (by omega)
          have u2' : decide (a.mails.length < ans.length) = false := decide_eq_false hlt
          have e1 : anL ans a.mails.length = 0 := by unfold anL; rw [List.getD_eq_getElem?_getD, List.getElem?_eq_none (by omega)]; rfl
          have HE := Lib.hid (And.intro e1 (Nat.zero_le 0))
          clear hlt hk hk1 hw hml e1
          have hwl := hI.out.wt
          have hbl : (a.s.st.body.getD []).length ≤ 100000000 := by unfold Sm.wt wtS at hwl; omega
          have HM := Lib.hid (mldAgg hI.out.ses hI.out.gd.inv hbl)
          clear hbl hwl
          go_wp2_with fail
          refine HM.out.mono ?_
          rintro e w2 ⟨rf, rp, rn, rc, rb, rfl, hr1, hs1, f1⟩
          obtain ⟨rs, m1, m2, m3⟩ := hI.out.mls.step (Ext.refl _ _) f1
          have hml := hI.out.ml
          have hrl : rs.length = a.mails.length := m3.len
          have hmlt : ∀ k, (Value.slice pmx a.mails.length cmx).ownBlock = some k → k < wr.heap.size := by
            obtain ⟨rs0, n1, -, -⟩ := hI.out.mls
            exact fun k e => (World.ownsRow.lt n1 k e).2
          have hwz : w.heap.size ≤ w2.heap.size := Nat.le_trans hI.out.frm.size f1.size
          have HRl := Lib.hid (And.intro hrl (And.intro hml hwz))
          have HMX := Lib.hid (And.intro m1 (And.intro m2 (And.intro m3 (And.intro hs1 (And.intro f1 (And.intro hr1 hmlt))))))
          clear m1 m2 m3 hs1 f1 hr1 hmlt hrl hml hwz
          go_wp2_with (first
            | (at_builtin; refine append_n _ rfl (.tmp 38) (.tmp 41) envG rfl w.heap.size (.slice pmx a.mails.length cmx) rs rfl (HMX.out.1.alloc _) ⟨w2.heap.size, 0, none⟩ [(⟨rf, rp, rn, rc, rb⟩ : RE)] 1 1 rfl rfl (cells_new w2 [.string rf, .slice rp rn rc, .string rb] _) (by have := HRl.out; omega) (by have := HRl.out; omega) (by have := HRl.out; simp; omega) ?_; intro mv3 w3 hown3 hg3 hn3; have hDM := hI.out.mail HMX.out.1 HMX.out.2.1 HMX.out.2.2.1 HMX.out.2.2.2.1 HMX.out.2.2.2.2.1 HMX.out.2.2.2.2.2.1 HMX.out.2.2.2.2.2.2 ((Below.refl _ _).alloc (Nat.le_refl _) _) hown3 hg3 hn3; have HDM := Lib.hid hDM; clear hDM hown3 hg3 hn3)
            | fail)
          obtain ⟨AW, hAW⟩ : ∃ AW, AW = answerW a.s.st (anL ans a.mails.length) := ⟨_, rfl⟩
          obtain ⟨FW, hFW⟩ : ∃ FW, FW = feedW most ⟨AW.1, a.s.rest, a.s.kept⟩ [] := ⟨_, rfl⟩
          have hrnd : rndW most (anL ans) a = ⟨FW.1, a.out ++ AW.2 ++ FW.2, a.mails ++ [envOf a.s.st]⟩ := by unfold rndW; rw [hFW, hAW]
          obtain ⟨r1, r2⟩ := rnd_gd HG.out.1 (anL ans) hI.out.gd hI.out.wt
          rw [hrnd] at r1 r2
          have hAn := ses_answer HDM.out.ses (anL ans a.mails.length)
          have hga := hI.out.gd.answer (anL ans a.mails.length)
          have hwa := answer_wt' (s := a.s) (anL ans a.mails.length)
          rw [← hAW] at hAn hga hwa
          have hwi := hI.out.wt
          obtain ⟨TA, hTA, hTAd, hTAs⟩ := bt_ex AW.2
          obtain ⟨TF, hTF, hTFd, hTFs⟩ := bt_ex FW.2
          unfold StpT at hAn
          rw [← hTA] at hAn
          rw [HE.out.1] at hAn
          have hOs : O.size = a.out.length := by rw [HO.out.1]; exact (bt_ex a.out).elim fun A h => by rw [← h.1]; exact h.2.2
          have hsum : O.size + TA.size + TF.size ≤ 50000000 := by
            have := r2
            rw [List.length_append, List.length_append] at this
            omega
          have u7 : ¬ 9223372036854775807 < O.size + TA.size := by omega
          have u8 : ¬ 9223372036854775807 < O.size + TA.size + TF.size := by omega
          have HX := Lib.hid (And.intro hga (And.intro hrnd (And.intro r1 (And.intro r2 (And.intro hFW.symm (And.intro hTF (And.intro hTA (show Sm.wt ⟨AW.1, a.s.rest, a.s.kept⟩ ≤ 50000000 from by have h9 : AW.2.length + Sm.wt ⟨AW.1, a.s.rest, a.s.kept⟩ ≤ Sm.wt a.s := hwa; omega))))))))
          have HAn := Lib.hid hAn
          clear hAn hga hrnd r1 r2 hFW hTF hTA hTAd hTAs hTFd hTFs hsum hwa hwi hOs hAW
          go_wp2_with fail
          refine HAn.out.mono ?_
          rintro e w4 ⟨rfl, hst4⟩
          obtain ⟨R4, hD4⟩ := HDM.out.step hst4
          have hF5 := feed_any (chunk := ⟨#[]⟩) hD4.ses HG.out.1 HX.out.1 (by decide) (by have h9 := HX.out.2.2.2.2.2.2.2; show Sm.wt ⟨AW.1, a.s.rest, a.s.kept⟩ + 2000 * 0 ≤ _; omega)
          have hF5' : Calls Tryz.prog 14 #[.pointer (some ⟨sb, 0, none⟩), .string ⟨#[]⟩] w4 (FedIs G w4 sb most R4 FW) := by
            have e9 := HX.out.2.2.2.2.1
            rw [← e9]; exact hF5
          unfold FedIs at hF5'
          rw [← HX.out.2.2.2.2.2.1] at hF5'
          have HF5 := Lib.hid hF5'
          have HD4 := Lib.hid hD4
          clear hF5 hF5' hD4 hst4
          go_wp2_with fail
          refine HF5.out.mono ?_
          rintro e w5 ⟨rfl, hst5⟩
          obtain ⟨R5, hD5⟩ := HD4.out.step hst5
          have hI5 := hD5.done (out := a.out ++ AW.2 ++ FW.2) hI.out.G0 HX.out.2.2.1 HX.out.2.2.2.1 (by have h9 := HRl.out; show (a.mails ++ [envOf a.s.st]).length ≤ 1000000; rw [List.length_append, List.length_singleton]; have h8 := HK.out; omega)
          have HI5 := Lib.hid hI5
          clear hD5 hI5 hst5
          go_wp2
          go_roundg (3100 - (k + 1))
          case rel =>
            refine ⟨k + 1, ⟨FW.1, a.out ++ AW.2 ++ FW.2, a.mails ++ [envOf a.s.st]⟩, R5, O ++ TA ++ TF, by have := HK.out.2.1; omega, by have := HK.out.2.2.2; show (a.mails ++ [envOf a.s.st]).length ≤ _; rw [List.length_append, List.length_singleton]; omega, rfl, rfl, rfl, ?_, HI5, ?_⟩
            · refine ⟨?_, Nat.le_refl _⟩
              rw [HO.out.1, HX.out.2.2.2.2.2.2.1, HX.out.2.2.2.2.2.1, bt_app, bt_app]
            · rw [← HX.out.2.1]
              have h9 := hD.out
              have hg9 : gk = (3100 - (k + 1)) + 1 := by have := HK.out; omega
              rw [hg9, drain_rnd _ _ _ _ HK.out.2.2.1] at h9
              exact h9
          case measure => have := HK.out; omega
    · have u1 : decide ((k : Int) < 3100) = false := decide_eq_false (by omega)
      have hFa : F = a := by rw [← hD.out]; exact drain_end _ _ _ _ (.inl (by omega))
      have HFa := Lib.hid hFa.symm
      clear hFa hml
      go_wp2
      go_ret2
      have hMo := hI.out.mls.out
      rw [← HFa.out]
      refine ⟨.slice pmx a.mails.length cmx, ?_, hMo, R, hI.out.ses, hI.out.ext, hI.out.frm⟩
      rw [HO.out.1]
      rfl
end
end Go.Proofs.YtjoipgekmnnlpaaGreatDoor
