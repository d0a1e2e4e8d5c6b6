/- Walks: chapter 22's law functions: lists of envelopes, Same, few. Walks: chapter 22's law functions: the reference's Same. Walks: chapter 22's law functions: drained. -/
import Derived.Test.YtjoipgekmnnlpaaGreatDoorSmMl
import Derived.Test.YtjoipgekmnnlpaaGreatDoorSmPz
namespace Go.Proofs.YtjoipgekmnnlpaaGreatDoor
open Go.RowKit Go.Shelf Go.Lib Pk Sm

section
variable {G : Nat} {w w' : World} {sb most : Nat} {s : Whl} {R : Roles}
theorem mailA_any (h : SesAt G w sb most s R) (hi : Inv most s.st) (hbl : (s.st.body.getD []).length ≤ 100000000) : Calls Tryz.prog 19 #[.pointer (some ⟨sb, 0, none⟩)] w (MldIs G w sb most s R) := by
  cases hw : s.st.waits with
  | false => exact mailA_no h hw
  | true => exact mailA_yes h hi hw hbl
def envL : Lay RE := ⟨fun r => [.string r.f, .slice r.p r.n r.c, .string r.b], 3, fun _ => rfl, by decide, fun x u hu => by simp at hu; rcases hu with rfl | rfl | rfl <;> rfl⟩
theorem envG : GSl envL 56 Tryz.prog 40 35 := GSl.of Tryz.underlying40 (by kernel_rfl)
/-- envelopes one by one -/
def Envs (w : World) (Y : Nat → Prop) : List RE → List Env → Prop
  | [], [] => True
  | r :: rs, m :: ms => EnvAt w Y r m ∧ Envs w Y rs ms
  | _, _ => False
theorem EnvAt.keepsB {Y Z : Nat → Prop} {r : RE} {m : Env} (h : EnvAt w Y r m) (hk : ∀ g, Y g → g < w.heap.size → w'.heap[g]? = w.heap[g]?) (hs : w.heap.size ≤ w'.heap.size) (hY : ∀ g, Y g → g < w.heap.size → Z g) : EnvAt w' Z r m := by
  refine ⟨h.1, h.2.1, ?_⟩
  obtain ⟨p, c, h1, h2, h3⟩ := h.2.2
  refine ⟨p, c, h1, h2, ?_⟩
  rcases h3 with h3 | ⟨g, o, h4, h5, h6, h7⟩
  · exact .inl h3
  · exact .inr ⟨g, o, h4, hY g h5 h6, by omega, fun j hj i u hu => (World.cell?_of_block (hk g h5 h6)).trans (h7 j hj i u hu)⟩
theorem Envs.keeps {Y Z : Nat → Prop} (hk : ∀ g, Y g → g < w.heap.size → w'.heap[g]? = w.heap[g]?) (hs : w.heap.size ≤ w'.heap.size) (hY : ∀ g, Y g → g < w.heap.size → Z g) : ∀ {rs : List RE} {ms : List Env}, Envs w Y rs ms → Envs w' Z rs ms
  | [], [], _ => trivial
  | [], _ :: _, h => h.elim
  | _ :: _, [], h => h.elim
  | _ :: _, _ :: _, h => ⟨h.1.keepsB hk hs hY, Envs.keeps hk hs hY h.2⟩
theorem Envs.snoc {Y : Nat → Prop} {r : RE} {m : Env} (hr : EnvAt w Y r m) : ∀ {rs : List RE} {ms : List Env}, Envs w Y rs ms → Envs w Y (rs ++ [r]) (ms ++ [m])
  | [], [], _ => ⟨hr, trivial⟩
  | [], _ :: _, h => h.elim
  | _ :: _, [], h => h.elim
  | _ :: _, _ :: _, h => ⟨h.1, Envs.snoc hr h.2⟩
theorem Envs.len {Y : Nat → Prop} : ∀ {rs : List RE} {ms : List Env}, Envs w Y rs ms → rs.length = ms.length
  | [], [], _ => rfl
  | [], _ :: _, h => h.elim
  | _ :: _, [], h => h.elim
  | _ :: _, _ :: _, h => by rw [List.length_cons, List.length_cons, Envs.len h.2]
theorem Envs.at {Y : Nat → Prop} : ∀ {rs : List RE} {ms : List Env}, Envs w Y rs ms → ∀ (i : Nat) (h1 : i < rs.length) (h2 : i < ms.length), EnvAt w Y rs[i] ms[i]
  | [], [], _, i, h1, _ => by cases h1
  | [], _ :: _, h, _, _, _ => h.elim
  | _ :: _, [], h, _, _, _ => h.elim
  | _ :: _, _ :: _, h, 0, _, _ => h.1
  | _ :: _, _ :: _, h, i + 1, h1, h2 => Envs.at h.2 i (by simpa using h1) (by simpa using h2)
/-- the messages so far, in a slice of the call's own -/
def MailsAt (w : World) (B : Nat) (R : Roles) (v : Value) (ms : List Env) : Prop := ∃ rs, ownsG envL w B 35 v rs ∧ (∀ k, v.ownBlock = some k → R k = 0) ∧ Envs w (fun g => R g = 0 ∧ B ≤ g ∧ v.ownBlock ≠ some g) rs ms
theorem MailsAt.nil (w : World) (B : Nat) (R : Roles) : MailsAt w B R (.slice none 0 0) [] := ⟨[], ownsG.nil _ _ _ _, (fun k e => by cases e), trivial⟩
theorem ownsG.kept {α : Type} {L : Lay α} {B : Nat} {e : TypeId} {v : Value} {l : List α} (h : ownsG L w B e v l) (hk : ∀ g, v.ownBlock = some g → w'.heap[g]? = w.heap[g]?) : ownsG L w' B e v l := by
  refine ⟨h.1, ?_⟩
  rcases h.2 with hn | ⟨g, cap, cur, h1, h2, h3, h4⟩
  · exact .inl hn
  · exact .inr ⟨g, cap, cur, h1, h2, (hk g (by rw [h1]; rfl)).trans h3, h4⟩
theorem MailsAt.step {B : Nat} {R' : Roles} {v : Value} {ms : List Env} (h : MailsAt w B R v ms) (hE : Ext w R R') (f : Fr (In R) w w') : MailsAt w' B R' v ms := by
  obtain ⟨rs, h1, h2, h3⟩ := h
  have hl : ∀ k, v.ownBlock = some k → k < w.heap.size := fun k e => (World.ownsRow.lt h1 k e).2
  have hk : ∀ g, R g = 0 → g < w.heap.size → w'.heap[g]? = w.heap[g]? := fun g hR hg => f.block g hg fun e => e hR
  refine ⟨rs, ownsG.kept h1 fun g e => hk g (h2 g e) (hl g e), fun k e => (hE k (hl k e)).trans (h2 k e), Envs.keeps (fun g hg hgl => hk g hg.1 hgl) f.size (fun g hg hgl => ⟨(hE g hgl).trans hg.1, hg.2⟩) h3⟩
/-- a message more -/
theorem MailsAt.put {B : Nat} {W w3 : World} {v v' : Value} {ms : List Env} {rs : List RE} {r : RE} {m : Env} (h2 : ∀ k, v.ownBlock = some k → R k = 0) (h3 : Envs w (fun g => R g = 0 ∧ B ≤ g ∧ v.ownBlock ≠ some g) rs ms)
    (hb : Below w.heap.size w W) (hbnd : ∀ k, R k ≠ 0 → k < w.heap.size) (hr : EnvAt W (fun g => R g = 0 ∧ B ≤ g ∧ v.ownBlock ≠ some g) r m)
    (h4 : ownsG envL w3 B 35 v' (rs ++ [r])) (hg : W.grownBy w3 v.ownBlock) (hn : NewOwn W v v') : MailsAt w3 B R v' (ms ++ [m]) := by
  have hW := hb.size
  have key : ∀ g, (R g = 0 ∧ B ≤ g ∧ v.ownBlock ≠ some g) → g < W.heap.size → (R g = 0 ∧ B ≤ g ∧ v'.ownBlock ≠ some g) := fun g hg hgl => ⟨hg.1, hg.2.1, fun e => by
    rcases hn with e' | e'
    · exact hg.2.2 (by rw [← e']; exact e)
    · have := e' g e; omega⟩
  refine ⟨rs ++ [r], h4, fun k e => ?_, ?_⟩
  · rcases hn with e' | e'
    · exact h2 k (by rw [← e']; exact e)
    · by_cases hx : R k = 0
      · exact hx
      · have := hbnd k hx; have := e' k e; omega
  · have hE1 : Envs W (fun g => R g = 0 ∧ B ≤ g ∧ v.ownBlock ≠ some g) rs ms := Envs.keeps (fun g _ hgl => hb.block g hgl) hb.size (fun g hg _ => hg) h3
    exact Envs.keeps (fun g hgg hgl => hg.block g hgl (fun e => hgg.2.2 e.symm)) hg.size key (Envs.snoc hr hE1)
/-- the messages as they are handed out, in blocks from B on -/
def MailsOut (B : Nat) (w : World) (v : Value) (ms : List Env) : Prop := ∃ rs p c, v = .slice p rs.length c ∧ rs.length = ms.length ∧ Envs w (fun g => B ≤ g) rs ms ∧ ReadsR envL w (fun g => B ≤ g) v rs
theorem MailsAt.out {B : Nat} {v : Value} {ms : List Env} (h : MailsAt w B R v ms) : MailsOut B w v ms := by
  obtain ⟨rs, h1, h2, h3⟩ := h
  have hr := h1.reads (X := fun g => B ≤ g) (fun k e => (World.ownsRow.lt h1 k e).1)
  obtain ⟨p, c, e, h4, h5⟩ := hr
  exact ⟨rs, p, c, e, h3.len, Envs.keeps (fun _ _ _ => rfl) (Nat.le_refl _) (fun _ h _ => h.2.1) h3, p, c, e, h4, h5⟩
theorem MailsOut.keeps {B : Nat} {v : Value} {ms : List Env} (h : MailsOut B w v ms) (hk : ∀ g, B ≤ g → g < w.heap.size → w'.heap[g]? = w.heap[g]?) (hs : w.heap.size ≤ w'.heap.size) : MailsOut B w' v ms := by
  obtain ⟨rs, p, c, e, h1, h2, h3⟩ := h
  exact ⟨rs, p, c, e, h1, Envs.keeps hk hs (fun _ h _ => h) h2, h3.keeps hk hs (fun _ h => h)⟩
theorem MailsOut.below {B : Nat} {v : Value} {ms : List Env} (h : MailsOut B w v ms) (hb : Below w.heap.size w w') : MailsOut B w' v ms := h.keeps (fun g _ hg => hb.block g hg) hb.size
/-- strings handed in -/
def StrIn (w : World) (v : Value) (ns : List ByteArray) : Prop := (∃ p c, v = .slice p ns.length c ∧ ns.length ≤ c ∧ (ns = [] ∨ ∃ g o, p = some ⟨g, o, none⟩ ∧ ∀ j (hj : j < ns.length), w.cell? ⟨g, o + j, none⟩ = some (.string ns[j]))) ∧ ∀ x ∈ ns, x.size ≤ 1048576
theorem StrIn.below {v : Value} {ns : List ByteArray} (h : StrIn w v ns) (hb : Below w.heap.size w w') : StrIn w' v ns := by
  obtain ⟨⟨p, c, h1, h2, h3⟩, h4⟩ := h
  refine ⟨⟨p, c, h1, h2, ?_⟩, h4⟩
  rcases h3 with h3 | ⟨g, o, h5, h6⟩
  · exact .inl h3
  · exact .inr ⟨g, o, h5, fun j hj => cell_later hb (h6 j hj)⟩
/-- numbers handed in, in a block below B -/
def IntIn (k : IntKind) (B : Nat) (w : World) (v : Value) (ns : List Int) : Prop := ∃ p c, v = .slice p ns.length c ∧ ns.length ≤ c ∧ (ns = [] ∨ ∃ g o, g < B ∧ p = some ⟨g, o, none⟩ ∧ ∀ j (hj : j < ns.length), w.cell? ⟨g, o + j, none⟩ = some (.int k ns[j]))
theorem IntIn.keeps {k : IntKind} {B C : Nat} {v : Value} {ns : List Int} (h : IntIn k B w v ns) (hk : ∀ g, g < B → w'.heap[g]? = w.heap[g]?) (hC : B ≤ C) : IntIn k C w' v ns := by
  obtain ⟨p, c, h1, h2, h3⟩ := h
  refine ⟨p, c, h1, h2, ?_⟩
  rcases h3 with h3 | ⟨g, o, hg, h5, h6⟩
  · exact .inl h3
  · exact .inr ⟨g, o, by omega, h5, fun j hj => (World.cell?_of_block (hk g hg)).trans (h6 j hj)⟩
def sumZ (ns : List ByteArray) : Nat := (ns.map ByteArray.size).sum
theorem sumZ_take (ns : List ByteArray) (i : Nat) (h : i < ns.length) : sumZ (ns.take (i + 1)) = sumZ (ns.take i) + ns[i].size := by
  unfold sumZ
  rw [List.take_succ_eq_append_getElem h, List.map_append, List.sum_append]
  simp
theorem sumZ_le {ns : List ByteArray} (h : ∀ x ∈ ns, x.size ≤ 1048576) : ∀ i, sumZ (ns.take i) ≤ i * 1048576 := by
  intro i
  induction i with
  | zero => simp [sumZ]
  | succ i ih =>
    rcases Nat.lt_or_ge i ns.length with hi | hi
    · rw [sumZ_take ns i hi]
      have := h _ (List.getElem_mem hi)
      omega
    · rw [List.take_of_length_le (by omega)]
      rw [List.take_of_length_le hi] at ih
      exact Nat.le_trans ih (Nat.mul_le_mul_right _ (Nat.le_succ i))
set_option maxHeartbeats 1000000 in
set_option maxRecDepth 100000 in
theorem few_any (v : Value) (ns : List ByteArray) (h : StrIn w v ns) : Calls Tryz.prog 9 #[v] w fun e w' => ∃ B : Bool, e = .returned (.bool B) ∧ w' = w ∧ (B = true → ns.length ≤ 60 ∧ sumZ ns ≤ 6000) := by
  obtain ⟨⟨p, c, rfl, hc, hp⟩, hm⟩ := h
  have hz := sumZ_le hm
  have HM := Lib.hid hm
  clear hm
  go_enter Tryz.func9, Tryz.ntmps9
  go_wp2
  go_loopg [3, 4] (ns.length) (fun g nv iv wr => ∃ i : Nat, i + g = ns.length ∧ i ≤ 100 ∧ iv = .int .i64 i ∧ nv = .int .i64 (sumZ (ns.take i) : Nat) ∧ wr = w)
  case atStart => exact ⟨0, by omega, by omega, rfl, rfl, rfl⟩
  case round =>
    obtain ⟨i, hi, hi1, rfl, rfl, rfl⟩ := hrel
    have hzi := hz i
    by_cases hl : i < ns.length
    · by_cases h100 : i < 100
      · rcases hp with hp | ⟨g, o, rfl, hcell⟩
        · rw [hp] at hl; cases hl
        · have hx := hcell i hl
          have hzs := sumZ_take ns i hl
          have hz1 := hz (i + 1)
          obtain ⟨Sx, hSx⟩ : ∃ Sx, Sx = ns[i] := ⟨_, rfl⟩
          rw [← hSx] at hx hzs
          have u1 : decide ((i : Int) < (ns.length : Int)) = true := decide_eq_true (by omega)
          have u2 : decide ((i : Int) < 100) = true := decide_eq_true (by omega)
          have u3 : (i : Int) < (ns.length : Int) := by omega
          have u5 : IntKind.i64.wrap ((sumZ (ns.take i) : Int) + (Sx.size : Int)) = (sumZ (ns.take (i + 1)) : Int) := by rw [hzs, Int.natCast_add]; exact w64 rfl (by omega) (by omega)
          have u6 : IntKind.i64.wrap ((i : Int) + 1) = (i : Int) + 1 := w64 rfl (by omega) (by omega)
          have Hz := Lib.hid hz
          have Hc := Lib.hid hcell
          clear hzs hz1 hSx hzi hz hcell
          obtain ⟨S1, hS1⟩ : ∃ S1, S1 = sumZ (ns.take (i + 1)) := ⟨_, rfl⟩
          rw [← hS1] at u5
          have HS1 := Lib.hid hS1
          clear hS1
          go_wp2
          go_roundg (ns.length - (i + 1))
          case rel => exact ⟨i + 1, by omega, by omega, rfl, by rw [HS1.out], rfl⟩
          case measure => omega
      · have u1 : decide ((i : Int) < (ns.length : Int)) = true := decide_eq_true (by omega)
        have u2 : decide ((i : Int) < 100) = false := decide_eq_false (by omega)
        have u3 : decide ((ns.length : Int) ≤ 60) = false := decide_eq_false (by omega)
        clear hz hzi hp
        go_wp2
        go_ret
        exact ⟨_, rfl, rfl, fun e => by cases e⟩
    · have u1 : decide ((i : Int) < (ns.length : Int)) = false := decide_eq_false (by omega)
      have hil : i = ns.length := by omega
      have hS : ns.take i = ns := by rw [hil, List.take_length]
      rw [hS] at *
      clear hz hzi hp hS
      by_cases h60 : ns.length ≤ 60
      · have u3 : decide ((ns.length : Int) ≤ 60) = true := decide_eq_true (by omega)
        obtain ⟨D, hD⟩ : ∃ D, D = decide ((sumZ ns : Int) ≤ 6000) := ⟨_, rfl⟩
        have HD := Lib.hid hD
        clear hil
        go_wp2
        go_ret
        refine ⟨_, rfl, rfl, fun e => ⟨h60, ?_⟩⟩
        have := of_decide_eq_true e
        omega
      · have u3 : decide ((ns.length : Int) ≤ 60) = false := decide_eq_false (by omega)
        clear hil
        go_wp2
        go_ret
        exact ⟨_, rfl, rfl, fun e => by cases e⟩
end
end Go.Proofs.YtjoipgekmnnlpaaGreatDoor
namespace Go.Proofs.YtjoipgekmnnlpaaGreatDoor
open Go.RowKit Go.Shelf Go.Lib Pk Sm

section
variable {w w' : World}
/-- the two boxes that Same lays, and the recipients -/
def SmB (b1 b2 : Nat) (f b : ByteArray) (p1 p2 : Option Addr) (n c1 c2 : Nat) (V : World) : Prop :=
  (V.cell? ⟨b1, 0, none⟩ = some (.string f) ∧ V.cell? ⟨b1, 1, none⟩ = some (.slice p1 n c1) ∧ V.cell? ⟨b1, 2, none⟩ = some (.string b)) ∧ V.cell? ⟨b2, 0, none⟩ = some (.string f) ∧ V.cell? ⟨b2, 1, none⟩ = some (.slice p2 n c2) ∧ V.cell? ⟨b2, 2, none⟩ = some (.string b)
theorem rcp_cells {Y : Nat → Prop} {p : Option Addr} {n c : Nat} {l : List ByteArray} (h : ReadsR txL w Y (.slice p n c) l) : n = l.length ∧ l.length ≤ c ∧ (l = [] ∨ ∃ g o, p = some ⟨g, o, none⟩ ∧ ∀ j (hj : j < l.length), w.cell? ⟨g, o + j, none⟩ = some (.string l[j])) := by
  obtain ⟨p', c', e, h1, h2⟩ := h
  injection e with e1 e2 e3
  subst e1; subst e2; subst e3
  refine ⟨rfl, h1, ?_⟩
  rcases h2 with h2 | ⟨g, o, h4, -, -, h5⟩
  · exact .inl h2
  · exact .inr ⟨g, o, h4, fun j hj => by have := h5 j hj 0 (.string l[j]) rfl; rw [show j * txL.k = j from Nat.mul_one j] at this; exact this⟩
def RcpC (w : World) (p : Option Addr) (l : List ByteArray) : Prop := l = [] ∨ ∃ g o, p = some ⟨g, o, none⟩ ∧ ∀ j (hj : j < l.length), w.cell? ⟨g, o + j, none⟩ = some (.string l[j])
set_option maxHeartbeats 2000000 in
set_option maxRecDepth 100000 in
theorem same_raw (F Bb : ByteArray) (p1 p2 : Option Addr) (c1 c2 : Nat) (L : List ByteArray) (q3 : RcpC w p1 L) (q6 : RcpC w p2 L) (hN : L.length ≤ 1000000) :
    Calls Tryz.prog 18 #[.agg #[.string F, .slice p1 L.length c1, .string Bb], .agg #[.string F, .slice p2 L.length c2, .string Bb]] w fun e w' => e = .returned (.bool true) ∧ Below w.heap.size w w' := by
  have H3 := Lib.hid (And.intro q3 q6)
  clear q3 q6
  go_enter Tryz.func18, Tryz.ntmps18
  go_wp2_with fail
  have hb2 : Below w.heap.size w ((w.alloc (.cells #[.string F, .slice p1 L.length c1, .string Bb] 35)).alloc (.cells #[.string F, .slice p2 L.length c2, .string Bb] 35)) := ((Below.refl _ _).alloc (Nat.le_refl _) _).alloc (by simp) _
  have hk1 : ((w.alloc (.cells #[.string F, .slice p1 L.length c1, .string Bb] 35)).alloc (.cells #[.string F, .slice p2 L.length c2, .string Bb] 35)).heap[w.heap.size]? = some (.cells #[.string F, .slice p1 L.length c1, .string Bb] 35 (0, 0)) := (heap_alloc_old _ _ (by simp)).trans (heap_alloc_new w _)
  have hk2 : ((w.alloc (.cells #[.string F, .slice p1 L.length c1, .string Bb] 35)).alloc (.cells #[.string F, .slice p2 L.length c2, .string Bb] 35)).heap[w.heap.size + 1]? = some (.cells #[.string F, .slice p2 L.length c2, .string Bb] 35 (0, 0)) := by
    have := heap_alloc_new (w.alloc (.cells #[.string F, .slice p1 L.length c1, .string Bb] 35)) (.cells #[.string F, .slice p2 L.length c2, .string Bb] 35)
    rwa [World.size_alloc] at this
  generalize ((w.alloc (.cells #[.string F, .slice p1 L.length c1, .string Bb] 35)).alloc (.cells #[.string F, .slice p2 L.length c2, .string Bb] 35)) = W2 at *
  have hst : W2.cell? ⟨w.heap.size, 1, none⟩ = some (.slice p1 L.length c1) ∧ W2.cell? ⟨w.heap.size + 1, 1, none⟩ = some (.slice p2 L.length c2) ∧ Below w.heap.size w W2 := ⟨(Lib.cell_of_heap hk1 _).trans rfl, (Lib.cell_of_heap hk2 _).trans rfl, hb2⟩
  clear hk1 hk2 hb2
  go_loopg [5] (L.length) (fun g iv wr => ∃ i : Nat, i + g = L.length ∧ iv = .int .i64 i ∧ wr.cell? ⟨w.heap.size, 1, none⟩ = some (.slice p1 L.length c1) ∧ wr.cell? ⟨w.heap.size + 1, 1, none⟩ = some (.slice p2 L.length c2) ∧ Below w.heap.size w wr)
  case atStart => exact ⟨0, by omega, rfl, hst.1, hst.2.1, hst.2.2⟩
  case round =>
    obtain ⟨i, hi, rfl, hx1, hx2, hbw⟩ := hrel
    clear hst
    by_cases hl : i < L.length
    · rcases H3.out.1 with hp | ⟨g1, o1, rfl, hcell1⟩
      · rw [hp] at hl; cases hl
      · rcases H3.out.2 with hp | ⟨g2, o2, rfl, hcell2⟩
        · rw [hp] at hl; cases hl
        · have hy1 : wr.cell? ⟨g1, o1 + i, none⟩ = some (.string L[i]) := cell_later hbw (hcell1 i hl)
          have hy2 : wr.cell? ⟨g2, o2 + i, none⟩ = some (.string L[i]) := cell_later hbw (hcell2 i hl)
          obtain ⟨Sx, hSx⟩ : ∃ Sx, Sx = L[i] := ⟨_, rfl⟩
          rw [← hSx] at hy1 hy2
          have u1 : decide ((i : Int) < (L.length : Int)) = true := decide_eq_true (by omega)
          have u3 : (i : Int) < (L.length : Int) := by omega
          have u6 : IntKind.i64.wrap ((i : Int) + 1) = (i : Int) + 1 := w64 rfl (by omega) (by omega)
          have HB := Lib.hid hbw
          clear hSx hcell1 hcell2 hbw
          go_wp2_with fail
          refine wp_region_heldO (fun V => V.cell? ⟨w.heap.size, 1, none⟩ = some (.slice (some ⟨g1, o1, none⟩) L.length c1) ∧ V.cell? ⟨w.heap.size + 1, 1, none⟩ = some (.slice (some ⟨g2, o2, none⟩) L.length c2) ∧ V.cell? ⟨g1, o1 + i, none⟩ = some (.string Sx) ∧ V.cell? ⟨g2, o2 + i, none⟩ = some (.string Sx)) 11 (by kernel_rfl) rfl ⟨hx1, hx2, hy1, hy2⟩ (fun hHeld => ?_)
          refine takeO (v := ?_) 0 rfl (by kernel_rfl) (by kernel_rfl) (by kernel_rfl) (by rfl) ?_ hHeld ?_
          rotate_left
          · intro w hSw
            obtain ⟨hSw0, hSw1, hSw2, hSw3⟩ := hSw
            go_simp
            first | done | with_reducible rfl
          simp only [Act.put, List.setIfInBounds_toArray, List.set_cons_zero, List.set_cons_succ]
          refine takeO (v := ?_) 1 rfl (by kernel_rfl) (by kernel_rfl) (by kernel_rfl) (by rfl) ?_ hHeld ?_
          rotate_left
          · intro w hSw
            obtain ⟨hSw0, hSw1, hSw2, hSw3⟩ := hSw
            go_simp
            first | done | with_reducible rfl
          simp only [Act.put, List.setIfInBounds_toArray, List.set_cons_zero, List.set_cons_succ]
          refine takeO (v := ?_) 2 rfl (by kernel_rfl) (by kernel_rfl) (by kernel_rfl) (by rfl) ?_ hHeld ?_
          rotate_left
          · intro w hSw
            obtain ⟨hSw0, hSw1, hSw2, hSw3⟩ := hSw
            go_simp
            first | done | with_reducible rfl
          simp only [Act.put, List.setIfInBounds_toArray, List.set_cons_zero, List.set_cons_succ]
          refine takeO (v := ?_) 3 rfl (by kernel_rfl) (by kernel_rfl) (by kernel_rfl) (by rfl) ?_ hHeld ?_
          rotate_left
          · intro w hSw
            obtain ⟨hSw0, hSw1, hSw2, hSw3⟩ := hSw
            go_simp
            first | done | with_reducible rfl
          simp only [Act.put, List.setIfInBounds_toArray, List.set_cons_zero, List.set_cons_succ]
          refine takeO (v := ?_) 4 rfl (by kernel_rfl) (by kernel_rfl) (by kernel_rfl) (by rfl) ?_ hHeld ?_
          rotate_left
          · intro w hSw
            obtain ⟨hSw0, hSw1, hSw2, hSw3⟩ := hSw
            go_simp
            first | done | with_reducible rfl
          simp only [Act.put, List.setIfInBounds_toArray, List.set_cons_zero, List.set_cons_succ]
          refine takeO (v := ?_) 5 rfl (by kernel_rfl) (by kernel_rfl) (by kernel_rfl) (by rfl) ?_ hHeld ?_
          rotate_left
          · intro w hSw
            obtain ⟨hSw0, hSw1, hSw2, hSw3⟩ := hSw
            go_simp
            first | done | with_reducible rfl
          simp only [Act.put, List.setIfInBounds_toArray, List.set_cons_zero, List.set_cons_succ]
          refine takeO (v := ?_) 6 rfl (by kernel_rfl) (by kernel_rfl) (by kernel_rfl) (by rfl) ?_ hHeld ?_
          rotate_left
          · intro w hSw
            obtain ⟨hSw0, hSw1, hSw2, hSw3⟩ := hSw
            go_simp
            first | done | with_reducible rfl
          simp only [Act.put, List.setIfInBounds_toArray, List.set_cons_zero, List.set_cons_succ]
          refine takeO (v := ?_) 7 rfl (by kernel_rfl) (by kernel_rfl) (by kernel_rfl) (by rfl) ?_ hHeld ?_
          rotate_left
          · intro w hSw
            obtain ⟨hSw0, hSw1, hSw2, hSw3⟩ := hSw
            go_simp
            first | done | with_reducible rfl
          simp only [Act.put, List.setIfInBounds_toArray, List.set_cons_zero, List.set_cons_succ]
          refine takeO (v := ?_) 8 rfl (by kernel_rfl) (by kernel_rfl) (by kernel_rfl) (by rfl) ?_ hHeld ?_
          rotate_left
          · intro w hSw
            obtain ⟨hSw0, hSw1, hSw2, hSw3⟩ := hSw
            go_simp
            first | done | with_reducible rfl
          simp only [Act.put, List.setIfInBounds_toArray, List.set_cons_zero, List.set_cons_succ]
          refine takeO (v := ?_) 9 rfl (by kernel_rfl) (by kernel_rfl) (by kernel_rfl) (by rfl) ?_ hHeld ?_
          rotate_left
          · intro w hSw
            obtain ⟨hSw0, hSw1, hSw2, hSw3⟩ := hSw
            go_simp
            first | done | with_reducible rfl
          simp only [Act.put, List.setIfInBounds_toArray, List.set_cons_zero, List.set_cons_succ]
          refine takeO (v := ?_) 10 rfl (by kernel_rfl) (by kernel_rfl) (by kernel_rfl) (by rfl) ?_ hHeld ?_
          rotate_left
          · intro w hSw
            obtain ⟨hSw0, hSw1, hSw2, hSw3⟩ := hSw
            go_simp
            first | done | with_reducible rfl
          simp only [Act.put, List.setIfInBounds_toArray, List.set_cons_zero, List.set_cons_succ]
          refine doneO (by kernel_rfl) ?_
          go_wp2
          go_roundg (L.length - (i + 1))
          case rel => exact ⟨i + 1, by omega, rfl, hx1, hx2, HB.out.drew⟩
          case measure => omega
    · have u1 : decide ((i : Int) < (L.length : Int)) = false := decide_eq_false (by omega)
      have HB := Lib.hid hbw
      clear hbw
      go_wp2
      go_ret
      exact ⟨rfl, HB.out⟩
theorem same_any {Y Z : Nat → Prop} (r1 r2 : RE) (m : Env) (h1 : EnvAt w Y r1 m) (h2 : EnvAt w Z r2 m) (hm : m.rcp.length ≤ 1000000) : Calls Tryz.prog 18 #[r1.val, r2.val] w fun e w' => e = .returned (.bool true) ∧ Below w.heap.size w w' := by
  obtain ⟨f1, p1, n1, c1, b1⟩ := r1
  obtain ⟨f2, p2, n2, c2, b2⟩ := r2
  obtain ⟨e1, e2, h3⟩ := h1
  obtain ⟨e3, e4, h4⟩ := h2
  replace e1 : f1 = bt m.frm := e1
  replace e2 : b1 = bt m.byt := e2
  replace e3 : f2 = bt m.frm := e3
  replace e4 : b2 = bt m.byt := e4
  subst e1; subst e2; subst e3; subst e4
  obtain ⟨q1, q2, q3⟩ := rcp_cells h3
  obtain ⟨q4, q5, q6⟩ := rcp_cells h4
  replace q1 : n1 = (m.rcp.map bt).length := q1
  replace q4 : n2 = (m.rcp.map bt).length := q4
  subst q1; subst q4
  exact same_raw _ _ p1 p2 c1 c2 _ q3 q6 (by rw [List.length_map]; exact hm)
end
end Go.Proofs.YtjoipgekmnnlpaaGreatDoor
