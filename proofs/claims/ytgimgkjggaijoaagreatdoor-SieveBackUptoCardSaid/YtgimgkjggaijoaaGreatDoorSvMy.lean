/- Plain and walks: how much a tree bears, as the reference counts it. -/
import Derived.Test.YtgimgkjggaijoaaGreatDoorSvS3
import Derived.Test.YtgimgkjggaijoaaGreatDoorSvJK
import Derived.Test.YtgimgkjggaijoaaGreatDoorSvGO
namespace Go.Proofs.YtgimgkjggaijoaaGreatDoor
open Go.RowKit Pk Lx Sv

def sumL {α : Type} (f : α → Nat) : List α → Nat
  | [] => 0
  | a :: r => f a + sumL f r
/-- a sum that is made -/
def SmTo {α : Type} (f : α → Nat) (l : List α) (i n T : Nat) : Prop := n + sumL f (l.drop i) = T
theorem smTo_step {α : Type} {f : α → Nat} {l : List α} {i n T : Nat} (h : SmTo f l i n T) (hi : i < l.length) : SmTo f l (i + 1) (n + f l[i]) T := by
  unfold SmTo at *
  rw [List.drop_eq_getElem_cons hi] at h
  show n + f l[i] + sumL f (l.drop (i + 1)) = T
  have h : n + (f l[i] + sumL f (l.drop (i + 1))) = T := h
  omega
theorem smTo_end {α : Type} {f : α → Nat} {l : List α} {i n T : Nat} (h : SmTo f l i n T) (hi : ¬ i < l.length) : n = T := by
  unfold SmTo at h
  rw [List.drop_eq_nil_of_le (by omega)] at h
  have h : n + 0 = T := h
  omega
theorem smTo_le {α : Type} {f : α → Nat} {l : List α} {i n T : Nat} (h : SmTo f l i n T) : n ≤ T := by unfold SmTo at h; omega
theorem smTo_begin {α : Type} (f : α → Nat) (l : List α) : SmTo f l 0 0 (sumL f l) := by unfold SmTo; rw [List.drop_zero, Nat.zero_add]
theorem sum_wAs : ∀ l : List ArgT, sumL wA l = wAs l
  | [] => rfl
  | a :: r => by show wA a + sumL wA r = wA a + wAs r; rw [sum_wAs r]
theorem sum_wTx : ∀ l : List ByteArray, l.length + sumL (fun t : ByteArray => t.size) l = wTx l
  | [] => rfl
  | a :: r => by
    have := sum_wTx r
    show r.length + 1 + (a.size + sumL (fun t : ByteArray => t.size) r) = 1 + a.size + wTx r
    omega
/-- how much tests bear, to a depth -/
def manyTs : Nat → List TestT → Nat
  | 0, _ => 1000000
  | D + 1, l => sumL (fun t => 1 + wAs (tArgs t) + manyTs D (tKids t)) l
def manyCs : Nat → List CmdT → Nat
  | 0, _ => 1000000
  | D + 1, l => sumL (fun t => 1 + wAs (cArgs t) + manyTs D (cTests t) + manyCs D (cBlock t)) l
theorem manyTs_le : ∀ (D : Nat) (l : List TestT), manyTs D l ≤ 1000000 + 1000001 * mTs l
  | 0, l => by show 1000000 ≤ _; omega
  | D + 1, l => by
    have h : ∀ l : List TestT, sumL (fun t => 1 + wAs (tArgs t) + manyTs D (tKids t)) l ≤ 1000001 * mTs l := fun l => by
      induction l with
      | nil => exact Nat.zero_le _
      | cons t r ih =>
        have h1 := manyTs_le D (tKids t)
        have h2 : mTs (t :: r) = mT t + mTs r := rfl
        rw [h2, mT_parts]
        show 1 + wAs (tArgs t) + manyTs D (tKids t) + sumL _ r ≤ _
        rw [Nat.mul_add, Nat.mul_add, Nat.mul_add]
        omega
    have := h l
    show sumL _ l ≤ _
    omega
theorem manyCs_le : ∀ (D : Nat) (l : List CmdT), manyCs D l ≤ 1000000 + 2000001 * mCs l
  | 0, l => by show 1000000 ≤ _; omega
  | D + 1, l => by
    have h : ∀ l : List CmdT, sumL (fun t => 1 + wAs (cArgs t) + manyTs D (cTests t) + manyCs D (cBlock t)) l ≤ 2000001 * mCs l := fun l => by
      induction l with
      | nil => exact Nat.zero_le _
      | cons t r ih =>
        have h1 := manyTs_le D (cTests t)
        have h3 := manyCs_le D (cBlock t)
        have h2 : mCs (t :: r) = mC t + mCs r := rfl
        rw [h2, mC_parts]
        show 1 + wAs (cArgs t) + manyTs D (cTests t) + manyCs D (cBlock t) + sumL _ r ≤ _
        rw [Nat.mul_add, Nat.mul_add, Nat.mul_add, Nat.mul_add]
        omega
    have := h l
    show sumL _ l ≤ _
    omega
theorem manyTs_ge : ∀ (D : Nat) (l : List TestT), manyTs D l ≤ 3000 → mTs l ≤ manyTs D l
  | 0, l, h => absurd (show 1000000 ≤ 3000 from h) (by omega)
  | D + 1, l, h => by
    have hh : ∀ l : List TestT, sumL (fun t => 1 + wAs (tArgs t) + manyTs D (tKids t)) l ≤ 3000 → mTs l ≤ sumL (fun t => 1 + wAs (tArgs t) + manyTs D (tKids t)) l := fun l => by
      induction l with
      | nil => exact fun _ => Nat.le_refl _
      | cons t r ih =>
        intro hl
        have hl : 1 + wAs (tArgs t) + manyTs D (tKids t) + sumL (fun t => 1 + wAs (tArgs t) + manyTs D (tKids t)) r ≤ 3000 := hl
        have h1 := manyTs_ge D (tKids t) (by omega)
        have h3 := ih (by omega)
        have h2 : mTs (t :: r) = mT t + mTs r := rfl
        rw [h2, mT_parts]
        show _ ≤ 1 + wAs (tArgs t) + manyTs D (tKids t) + sumL (fun t => 1 + wAs (tArgs t) + manyTs D (tKids t)) r
        omega
    exact hh l h
theorem manyCs_ge : ∀ (D : Nat) (l : List CmdT), manyCs D l ≤ 3000 → mCs l ≤ manyCs D l
  | 0, l, h => absurd (show 1000000 ≤ 3000 from h) (by omega)
  | D + 1, l, h => by
    have hh : ∀ l : List CmdT, sumL (fun t => 1 + wAs (cArgs t) + manyTs D (cTests t) + manyCs D (cBlock t)) l ≤ 3000 → mCs l ≤ sumL (fun t => 1 + wAs (cArgs t) + manyTs D (cTests t) + manyCs D (cBlock t)) l := fun l => by
      induction l with
      | nil => exact fun _ => Nat.le_refl _
      | cons t r ih =>
        intro hl
        have hl : 1 + wAs (cArgs t) + manyTs D (cTests t) + manyCs D (cBlock t) + sumL (fun t => 1 + wAs (cArgs t) + manyTs D (cTests t) + manyCs D (cBlock t)) r ≤ 3000 := hl
        have h1 := manyTs_ge D (cTests t) (by omega)
        have h4 := manyCs_ge D (cBlock t) (by omega)
        have h3 := ih (by omega)
        have h2 : mCs (t :: r) = mC t + mCs r := rfl
        rw [h2, mC_parts]
        show _ ≤ 1 + wAs (cArgs t) + manyTs D (cTests t) + manyCs D (cBlock t) + sumL (fun t => 1 + wAs (cArgs t) + manyTs D (cTests t) + manyCs D (cBlock t)) r
        omega
    exact hh l h
/-- a number, with nothing written -/
def NT (v : Nat) (w : World) (e : Ending) (w' : World) : Prop := e = .returned (.int .i64 (v : Int)) ∧ ∃ m, w' = w.drewN m
set_option maxHeartbeats 4000000 in
set_option maxRecDepth 100000 in
theorem manyA_any (X : Nat → Prop) (v : Value) (a : List ArgT) (w : World) (hA : ArgsAt w X v a) (hs : wAs a ≤ 100000000) : Calls Tryz.prog 56 #[v] w (NT (wAs a) w) := by
  obtain ⟨R, hR, rl, re⟩ := hA
  obtain ⟨pa, ca, rfl, hca, hA⟩ := rdCell hR
  have HA := Lib.hid hA
  have hb := smTo_begin wA a
  rw [sum_wAs] at hb
  have HB := Lib.hid hb
  have hla := wAs_len a
  rw [rl] at hca ⊢
  have RL := Lib.hid rl
  clear hA hR hb rl
  go_enter Tryz.func56, Tryz.ntmps56
  go_wp2
  go_loopg [3, 4] a.length (fun g nv iv wr => ∃ (i n : Nat), i + g = a.length ∧ nv = .int .i64 n ∧ iv = .int .i64 i ∧ Drw w wr ∧ Hid (SmTo wA a i n (wAs a)))
  case atStart => exact ⟨0, 0, by omega, by first | rfl | trivial, by first | rfl | trivial, Drw.refl _, HB.out⟩
  case round =>
    clear HB
    obtain ⟨i, n, hig, rfl, rfl, hk, hS⟩ := hrel
    by_cases hlt : i < a.length
    · rcases HA.out with h0 | ⟨ga, oa, rfl, hca2⟩
      · have := RL.out; rw [h0, List.length_nil] at this; omega
      · have iR : i < R.length := by have := RL.out; omega
        have a1 := ReadsR_at hk (hca2 i iR)
        obtain ⟨e1, e2, e3, e4, e5⟩ := re i iR hlt
        have hN := smTo_step hS.out hlt
        have hle := smTo_le hN
        have HN := Lib.hid hN
        clear hN hca2
        generalize R[i] = r at *
        generalize a[i] = b at *
        obtain ⟨rk, rt, rn, ⟨rp, rm, rc⟩, rs⟩ := r
        simp only at e1 e2 e3 e4
        subst e1 e2 e3 e4
        obtain ⟨pt, ct, hpv, hct, hT⟩ := rdCell e5
        dsimp only [SlV.val] at hpv
        injection hpv with h1 h2 h3
        subst h1
        subst h2
        subst h3
        have hsz := sum_wTx b.texts
        have hwA : wA b = 1 + b.tag.size + wTx b.texts := rfl
        have HT := Lib.hid hT
        have c1 : wr.cell? ⟨ga, oa + i * 5 + 1, none⟩ = some (.string b.tag) := a1 1 rfl
        have c3 : wr.cell? ⟨ga, oa + i * 5 + 3, none⟩ = some (.slice rp b.texts.length rc) := a1 3 rfl
        have w1 : IntKind.i64.wrap ((n : Int) + 1) = (n : Int) + 1 := w64 rfl (by omega) (by omega)
        have w2 : IntKind.i64.wrap ((n : Int) + 1 + (b.texts.length : Int)) = (n : Int) + 1 + (b.texts.length : Int) := w64 rfl (by omega) (by omega)
        have w3 : IntKind.i64.wrap ((n : Int) + 1 + (b.texts.length : Int) + (b.tag.size : Int)) = (n : Int) + 1 + (b.texts.length : Int) + (b.tag.size : Int) := w64 rfl (by omega) (by omega)
        have HSm : Hid (SmTo (fun t : ByteArray => t.size) b.texts 0 (n + 1 + b.texts.length + b.tag.size) (n + wA b)) := by
          show SmTo _ _ _ _ _
          unfold SmTo
          rw [List.drop_zero]
          omega
        have hNb : n + wA b ≤ 100000000 := by omega
        have HC3 := Lib.hid c3
        have HKd := Lib.hid hk
        have hTl : b.texts.length ≤ 100000000 := by omega
        clear a1 e5 hT hsz hwA hS hle
        go_wp2
        go_quiet (fail)
        have hk := hk.more nq
        replace c3 : (wr.drewN nq).cell? _ = _ := c3
        generalize wr.drewN nq = wq at *
        clear w1 w2 w3
        go_wp2
        go_loopg [3, 5] b.texts.length (fun g nv kv wx => ∃ (k n2 : Nat), k + g = b.texts.length ∧ nv = .int .i64 n2 ∧ kv = .int .i64 k ∧ Drw w wx ∧ Hid (SmTo (fun t : ByteArray => t.size) b.texts k n2 (n + wA b)))
        case atStart => exact ⟨0, n + 1 + b.texts.length + b.tag.size, by omega, by go_num, by first | rfl | trivial, hk, HSm.out⟩
        case round =>
          clear hk c1 c3 HSm
          obtain ⟨k, n2, hkg, rfl, rfl, hk, hS2⟩ := hrel
          have c3 : wr.cell? ⟨ga, oa + i * 5 + 3, none⟩ = some (.slice rp b.texts.length rc) := by
            have := HC3.out
            rw [HKd.out.cell] at this
            rw [hk.cell]; exact this
          have hle2 := smTo_le hS2.out
          by_cases hlt2 : k < b.texts.length
          · rcases HT.out with h0 | ⟨gt, ot, rfl, hct2⟩
            · rw [h0, List.length_nil] at hlt2; omega
            · have c5 : wr.cell? ⟨gt, ot + k, none⟩ = some (.string b.texts[k]) := by
                have := hct2 k hlt2 0 _ rfl
                rw [hk.cell]
                simpa [strL] using this
              have hN2 := smTo_step hS2.out hlt2
              have hle3 := smTo_le hN2
              have HN2 := Lib.hid hN2
              generalize b.texts[k] = t at *
              have w1 : IntKind.i64.wrap ((n2 : Int) + (t.size : Int)) = (n2 : Int) + (t.size : Int) := w64 rfl (by omega) (by omega)
              clear hct2 hN2 hS2
              go_wp2
              go_roundg (b.texts.length - (k + 1))
              case rel => exact ⟨k + 1, n2 + t.size, by omega, by go_num, by go_num, hk, HN2⟩
              case measure => omega
          · have hE := smTo_end hS2.out hlt2
            clear hS2 hle2
            go_wp2
            go_roundg (a.length - (i + 1))
            case rel => exact ⟨i + 1, n + wA b, by omega, by rw [hE], by go_num, hk, HN⟩
            case measure => omega
    · have hE := smTo_end hS.out hlt
      clear hS
      go_wp2
      go_ret
      exact ⟨by rw [hE]; rfl, hk⟩
set_option maxHeartbeats 8000000 in
set_option maxRecDepth 100000 in
theorem manyT_any : ∀ (D : Nat) (X : Nat → Prop) (v : Value) (l : List TestT) (e : Int) (w : World), e = (D : Int) - 1 → D ≤ 100 → TestsAt w X v l → wTs l ≤ 100000000 → Calls Tryz.prog 57 #[v, .int .i64 e] w (NT (manyTs D l) w)
  | 0, X, v, l, e, w, he, hD, hA, hs => by
    have q1 : decide (e < 0) = true := decide_eq_true (by omega)
    clear hA hs he
    go_enter Tryz.func57, Tryz.ntmps57
    go_wp2
    go_ret
    exact ⟨rfl, 0, rfl⟩
  | D + 1, X, v, l, e, w, he, hD, hA, hs => by
    have ih := manyT_any D
    have q1 : decide (e < 0) = false := decide_eq_false (by push_cast at he; omega)
    have hem : IntKind.i64.wrap (e - 1) = e - 1 := w64 rfl (by push_cast at he; omega) (by push_cast at he; omega)
    have he2 : e - 1 = (D : Int) - 1 := by push_cast at he; omega
    obtain ⟨R, hR, rl, re⟩ := hA.out
    obtain ⟨pa, ca, rfl, hca, hA⟩ := rdCell hR
    have HA := Lib.hid hA
    have HB := Lib.hid (show SmTo (fun t => 1 + wAs (tArgs t) + manyTs D (tKids t)) l 0 0 (manyTs (D + 1) l) from smTo_begin _ l)
    have hla := wTs_len l
    have hT := manyTs_le (D + 1) l
    have hmw := wTs_nm l
    rw [rl] at hca ⊢
    have RL := Lib.hid rl
    have IH := Lib.hid ih
    have HE2 := Lib.hid he2
    have hTb : manyTs (D + 1) l ≤ 200000000000000 := by omega
    generalize manyTs (D + 1) l = T at *
    clear hA hR rl ih he he2 hT hmw
    go_enter Tryz.func57, Tryz.ntmps57
    go_wp2
    go_loopg [5, 6] l.length (fun g nv iv wr => ∃ (i n : Nat), i + g = l.length ∧ nv = .int .i64 n ∧ iv = .int .i64 i ∧ Drw w wr ∧ Hid (SmTo (fun t => 1 + wAs (tArgs t) + manyTs D (tKids t)) l i n T))
    case atStart => exact ⟨0, 0, by omega, by first | rfl | trivial, by first | rfl | trivial, Drw.refl _, HB.out⟩
    case round =>
      clear HB
      obtain ⟨i, n, hig, rfl, rfl, hk, hS⟩ := hrel
      by_cases hlt : i < l.length
      · rcases HA.out with h0 | ⟨ga, oa, rfl, hca2⟩
        · have := RL.out; rw [h0, List.length_nil] at this; omega
        · have iR : i < R.length := by have := RL.out; omega
          have a1 := ReadsR_at hk (hca2 i iR)
          obtain ⟨e1, e2, e3, e4⟩ := re i iR hlt
          have hw := wTs_at i hlt
          rw [wT_parts] at hw
          have hN := smTo_step hS.out hlt
          have hle := smTo_le hN
          have HN := Lib.hid hN
          clear hN hca2
          generalize R[i] = r at *
          generalize l[i] = t at *
          obtain ⟨rn, ⟨ap, an, ac⟩, ⟨kp, kn, kc⟩, ra⟩ := r
          have c1 : wr.cell? ⟨ga, oa + i * 4 + 1, none⟩ = some (.slice ap an ac) := a1 1 rfl
          have c2 : wr.cell? ⟨ga, oa + i * 4 + 2, none⟩ = some (.slice kp kn kc) := a1 2 rfl
          have hz : ∀ (Z : Nat → Prop) W, Drw w W → ∀ g, Z g → g < w.heap.size → W.heap[g]? = w.heap[g]? := fun Z W hW g _ _ => by obtain ⟨k, rfl⟩ := hW; rfl
          have hzs : ∀ W, Drw w W → w.heap.size ≤ W.heap.size := fun W hW => by obtain ⟨k, rfl⟩ := hW; exact Nat.le_refl _
          have HS := Lib.hid (fun W hW => manyA_any X (.slice ap an ac) (tArgs t) W (e3.keeps (hz X W hW) (hzs W hW) fun _ h => h) (by omega))
          have HK := Lib.hid (fun W hW => IH.out X (.slice kp kn kc) (tKids t) (e - 1) W HE2.out (by omega) (e4.keeps (hz X W hW) (hzs W hW) fun _ h => h) (by omega))
          generalize manyTs D (tKids t) = M at *
          generalize wAs (tArgs t) = S at *
          have w1 : IntKind.i64.wrap ((n : Int) + 1) = (n : Int) + 1 := w64 rfl (by omega) (by omega)
          have w2 : IntKind.i64.wrap ((n : Int) + 1 + (S : Int)) = (n : Int) + 1 + (S : Int) := w64 rfl (by omega) (by omega)
          have w3 : IntKind.i64.wrap ((n : Int) + 1 + (S : Int) + (M : Int)) = (n : Int) + 1 + (S : Int) + (M : Int) := w64 rfl (by omega) (by omega)
          clear a1 e3 e4 hz hzs hS hle hw
          go_wp2
          go_quiet ((first | (go_at_call 56; exact Calls.quiet_of (HS.out _ (hk.more _))) | (go_at_call 57; exact Calls.quiet_of (HK.out _ (hk.more _)))))
          go_wp2
          go_roundg (l.length - (i + 1))
          case rel => exact ⟨i + 1, n + (1 + S + M), by omega, by go_num, by go_num, hk.more _, HN⟩
          case measure => omega
      · have hE := smTo_end hS.out hlt
        clear hS
        go_wp2
        go_ret
        exact ⟨by rw [hE]; rfl, hk⟩
set_option maxHeartbeats 8000000 in
set_option maxRecDepth 100000 in
theorem manyC_any : ∀ (D : Nat) (X : Nat → Prop) (v : Value) (l : List CmdT) (e : Int) (w : World), e = (D : Int) - 1 → D ≤ 100 → CmdsAt w X v l → wCs l ≤ 100000000 → Calls Tryz.prog 25 #[v, .int .i64 e] w (NT (manyCs D l) w)
  | 0, X, v, l, e, w, he, hD, hA, hs => by
    have q1 : decide (e < 0) = true := decide_eq_true (by omega)
    clear hA hs he
    go_enter Tryz.func25, Tryz.ntmps25
    go_wp2
    go_ret
    exact ⟨rfl, 0, rfl⟩
  | D + 1, X, v, l, e, w, he, hD, hA, hs => by
    have ih := manyC_any D
    have q1 : decide (e < 0) = false := decide_eq_false (by push_cast at he; omega)
    have hem : IntKind.i64.wrap (e - 1) = e - 1 := w64 rfl (by push_cast at he; omega) (by push_cast at he; omega)
    have he2 : e - 1 = (D : Int) - 1 := by push_cast at he; omega
    obtain ⟨R, hR, rl, re⟩ := hA.out
    obtain ⟨pa, ca, rfl, hca, hA⟩ := rdCell hR
    have HA := Lib.hid hA
    have HB := Lib.hid (show SmTo (fun t => 1 + wAs (cArgs t) + manyTs D (cTests t) + manyCs D (cBlock t)) l 0 0 (manyCs (D + 1) l) from smTo_begin _ l)
    have hla := wCs_len l
    have hT := manyCs_le (D + 1) l
    have hmw := wCs_nm l
    rw [rl] at hca ⊢
    have RL := Lib.hid rl
    have IH := Lib.hid ih
    have HE2 := Lib.hid he2
    have hTb : manyCs (D + 1) l ≤ 1000000000000000 := by omega
    generalize manyCs (D + 1) l = T at *
    clear hA hR rl ih he he2 hT hmw
    go_enter Tryz.func25, Tryz.ntmps25
    go_wp2
    go_loopg [5, 6] l.length (fun g nv iv wr => ∃ (i n : Nat), i + g = l.length ∧ nv = .int .i64 n ∧ iv = .int .i64 i ∧ Drw w wr ∧ Hid (SmTo (fun t => 1 + wAs (cArgs t) + manyTs D (cTests t) + manyCs D (cBlock t)) l i n T))
    case atStart => exact ⟨0, 0, by omega, by first | rfl | trivial, by first | rfl | trivial, Drw.refl _, HB.out⟩
    case round =>
      clear HB
      obtain ⟨i, n, hig, rfl, rfl, hk, hS⟩ := hrel
      by_cases hlt : i < l.length
      · rcases HA.out with h0 | ⟨ga, oa, rfl, hca2⟩
        · have := RL.out; rw [h0, List.length_nil] at this; omega
        · have iR : i < R.length := by have := RL.out; omega
          have a1 := ReadsR_at hk (hca2 i iR)
          obtain ⟨-, e3, e4, e5⟩ := re i iR hlt
          have hw := wCs_at i hlt
          rw [wC_parts] at hw
          have hN := smTo_step hS.out hlt
          have hle := smTo_le hN
          have HN := Lib.hid hN
          clear hN hca2
          generalize R[i] = r at *
          generalize l[i] = t at *
          obtain ⟨rn, ⟨ap, an, ac⟩, ⟨kp, kn, kc⟩, ⟨bp, bn, bc⟩, rb, ra⟩ := r
          have c1 : wr.cell? ⟨ga, oa + i * 6 + 1, none⟩ = some (.slice ap an ac) := a1 1 rfl
          have c2 : wr.cell? ⟨ga, oa + i * 6 + 2, none⟩ = some (.slice kp kn kc) := a1 2 rfl
          have c3 : wr.cell? ⟨ga, oa + i * 6 + 3, none⟩ = some (.slice bp bn bc) := a1 3 rfl
          have hz : ∀ (Z : Nat → Prop) W, Drw w W → ∀ g, Z g → g < w.heap.size → W.heap[g]? = w.heap[g]? := fun Z W hW g _ _ => by obtain ⟨k, rfl⟩ := hW; rfl
          have hzs : ∀ W, Drw w W → w.heap.size ≤ W.heap.size := fun W hW => by obtain ⟨k, rfl⟩ := hW; exact Nat.le_refl _
          have HS := Lib.hid (fun W hW => manyA_any X (.slice ap an ac) (cArgs t) W (e3.keeps (hz X W hW) (hzs W hW) fun _ h => h) (by omega))
          have HK := Lib.hid (fun W hW => manyT_any D X (.slice kp kn kc) (cTests t) (e - 1) W HE2.out (by omega) (e4.keeps (hz X W hW) (hzs W hW) fun _ h => h) (by omega))
          have HL := Lib.hid (fun W hW => IH.out X (.slice bp bn bc) (cBlock t) (e - 1) W HE2.out (by omega) (e5.keeps (hz X W hW) (hzs W hW) fun _ h => h) (by omega))
          generalize manyTs D (cTests t) = M at *
          generalize manyCs D (cBlock t) = N at *
          generalize wAs (cArgs t) = S at *
          have w1 : IntKind.i64.wrap ((n : Int) + 1) = (n : Int) + 1 := w64 rfl (by omega) (by omega)
          have w2 : IntKind.i64.wrap ((n : Int) + 1 + (S : Int)) = (n : Int) + 1 + (S : Int) := w64 rfl (by omega) (by omega)
          have w3 : IntKind.i64.wrap ((n : Int) + 1 + (S : Int) + (M : Int)) = (n : Int) + 1 + (S : Int) + (M : Int) := w64 rfl (by omega) (by omega)
          have w4 : IntKind.i64.wrap ((n : Int) + 1 + (S : Int) + (M : Int) + (N : Int)) = (n : Int) + 1 + (S : Int) + (M : Int) + (N : Int) := w64 rfl (by omega) (by omega)
          clear a1 e3 e4 e5 hz hzs hS hle hw
          go_wp2
          go_quiet ((first | (go_at_call 56; exact Calls.quiet_of (HS.out _ (hk.more _))) | (go_at_call 57; exact Calls.quiet_of (HK.out _ (hk.more _))) | (go_at_call 25; exact Calls.quiet_of (HL.out _ (hk.more _)))))
          go_wp2
          go_roundg (l.length - (i + 1))
          case rel => exact ⟨i + 1, n + (1 + S + M + N), by omega, by go_num, by go_num, hk.more _, HN⟩
          case measure => omega
      · have hE := smTo_end hS.out hlt
        clear hS
        go_wp2
        go_ret
        exact ⟨by rw [hE]; rfl, hk⟩
theorem few_any (X : Nat → Prop) (v : Value) (l : List CmdT) (w : World) (hA : CmdsAt w X v l) (hs : wCs l ≤ 100000000) : Calls Tryz.prog 14 #[v] w fun e w' => e = .returned (.bool (decide (manyCs 13 l ≤ 3000))) ∧ Below w.heap.size w w' := by
  have HM := Lib.hid (manyC_any 13 X v l 12 w rfl (by omega) hA hs)
  have hq : decide ((manyCs 13 l : Int) ≤ 3000) = decide (manyCs 13 l ≤ 3000) := by
    rw [decide_eq_decide]
    omega
  generalize manyCs 13 l = T at *
  clear hA hs
  go_enter Tryz.func14, Tryz.ntmps14
  go_wp2_with fail
  refine HM.out.mono ?_
  rintro e w1 ⟨rfl, m, rfl⟩
  go_wp2
  go_ret
  exact ⟨rfl, below_drawS _ _⟩
end Go.Proofs.YtgimgkjggaijoaaGreatDoor
