/- Walks: a tree of commands as it is handed in. -/
import Derived.Test.YtgimgkjggaijoaaGreatDoorSvL0
import Derived.Test.YtgimgkjggaijoaaGreatDoorWorld24
import Derived.Deep.Slices
import Derived.OpenShut
import Derived.WideShapes
namespace Go.Proofs.YtgimgkjggaijoaaGreatDoor
open Go.RowKit Pk Lx Sv

set_option maxRecDepth 100000 in
theorem laidOutO : laidOutB Tryz.prog = true := by kernel_rfl
/-- two lists, element by element -/
def Pairs {α β : Type} (Q : α → β → Prop) (R : List α) (S : List β) : Prop := R.length = S.length ∧ ∀ j (h1 : j < R.length) (h2 : j < S.length), Q R[j] S[j]
theorem Pairs.cons {α β : Type} {Q : α → β → Prop} {a : α} {b : β} {R : List α} {S : List β} (h : Pairs Q (a :: R) (b :: S)) : Q a b ∧ Pairs Q R S := by
  obtain ⟨h1, h2⟩ := h
  simp only [List.length_cons] at h1
  exact ⟨h2 0 (by simp) (by simp), by omega, fun j a1 a2 => h2 (j + 1) (by simp; omega) (by simp; omega)⟩
theorem Pairs.choose {α β γ : Type} [Inhabited β] {P : α → β → Prop} {S : β → γ → Prop} {R : List α} {D : List γ} (h : Pairs (fun r d => ∃ b, P r b ∧ S b d) R D) : ∃ B : List β, Pairs P R B ∧ Pairs S B D := by
  obtain ⟨hl, h⟩ := h
  obtain ⟨f, hf⟩ := Deep.choose_lt (n := R.length) (p := fun i b => ∃ (h1 : i < R.length) (h2 : i < D.length), P R[i] b ∧ S b D[i]) (fun i hi => by
    obtain ⟨b, h1, h2⟩ := h i hi (by omega)
    exact ⟨b, hi, by omega, h1, h2⟩)
  have hlen : ((List.range R.length).map f).length = R.length := by rw [List.length_map, List.length_range]
  refine ⟨(List.range R.length).map f, ⟨hlen.symm, fun j h1 h2 => ?_⟩, by rw [hlen, hl], fun j h1 h2 => ?_⟩
  · rw [List.getElem_map, List.getElem_range]
    obtain ⟨_, _, h3, _⟩ := hf j h1
    exact h3
  · rw [List.getElem_map, List.getElem_range]
    obtain ⟨_, _, _, h3⟩ := hf j (by omega)
    exact h3
theorem Pairs.mono {α β : Type} {P Q : α → β → Prop} {R : List α} {S : List β} (h : Pairs P R S) (hq : ∀ a b, P a b → Q a b) : Pairs Q R S := ⟨h.1, fun j a b => hq _ _ (h.2 j a b)⟩
theorem Pairs.sum {H β : Type} {f : β → Nat} {F : List β → Nat} (h0 : F [] = 0) (h1 : ∀ b r, F (b :: r) = f b + F r) : ∀ {B : List β} {D : List (DataW H)}, Pairs (fun b d => f b ≤ Rows.uptoBulk d) B D → F B ≤ Rows.uptoBulkAll D
  | [], [], _ => by rw [h0]; exact Nat.zero_le _
  | [], _ :: _, h => by have := h.1; simp at this
  | _ :: _, [], h => by have := h.1; simp at this
  | b :: B, d :: D, h => by
    obtain ⟨e1, e2⟩ := h.cons
    have := Pairs.sum h0 h1 e2
    rw [h1]
    unfold Rows.uptoBulkAll
    omega
theorem Pairs.all {α β : Type} {P : α → Prop} {R : List α} {S : List β} (h : Pairs (fun a _ => P a) R S) : ∀ a ∈ R, P a := fun a ha => by
  obtain ⟨j, hj, rfl⟩ := List.getElem_of_mem ha
  exact h.2 j hj (by have := h.1; omega)
theorem Pairs.eqL {H : Type} {B : List ByteArray} {D : List (DataW H)} (h : Pairs (fun (s : ByteArray) d => d = .lit (.string s.data.toList)) B D) : wTx B ≤ Rows.uptoBulkAll D :=
  Pairs.sum (f := fun s => 1 + s.size) rfl (fun _ _ => rfl) (h.mono fun s d e => by
    subst e
    have : s.data.toList.length = s.size := Array.length_toList
    show 1 + s.size ≤ s.data.toList.length + 1
    omega)
section
variable {H : Type} {enc : TypeId × Value → H} {W : World}
theorem open_rows {α : Type} [Inhabited α] (L : Lay α) {t e : TypeId} (ht : Tryz.prog.underlying t = some (.slice e)) (hce : Tryz.prog.cellsOf e = L.k) (Q : α → DataW H → Prop) {fuel : Nat} {cs : List Value} {d : DataW H} {p : List MemPlace}
    (h : DataW.trod enc Tryz.prog W 0 (fun _ => true) true fuel t cs = some (d, p))
    (each : ∀ n cs' d' p', n < fuel → DataW.trod enc Tryz.prog W 0 (fun _ => true) true n e cs' = some (d', p') → ∃ r : α, cs' = L.enc r ∧ Q r d') :
    ∃ s : SlV, cs = [s.val] ∧ ∃ (R : List α) (D : List (DataW H)), ReadsR L W (· < W.heap.size) s.val R ∧ Pairs Q R D ∧ Rows.uptoBulkAll D + 1 ≤ Rows.uptoBulk d := by
  rcases DataW.trod_slice ht h with ⟨hc, hx⟩ | ⟨a, len, cap, elems, rest, n, rfl, hc, hx, -, hl, hm, hlen, hel, -, -⟩
  · injection hx with hd hp
    subst hd
    exact ⟨⟨none, 0, 0⟩, hc, [], [], ReadsR.nil _ _ _, ⟨rfl, fun j h => by simp at h⟩, Nat.le_refl _⟩
  · injection hx with hd hp
    subst hd
    have each' : ∀ i, i < len → ∃ q : α, (∀ (k : Nat) u, (L.enc q)[k]? = some u → W.cell? (a.add (i * L.k + k)) = some u) ∧ ∃ (h2 : i < (elems.map (·.1)).length), Q q (elems.map (·.1))[i] := fun i hi => by
      have h1 := hel i hi
      have hie : i < elems.length := by omega
      rw [List.getElem?_eq_getElem hie] at h1
      obtain ⟨cs', h2, h3⟩ := Option.bind_eq_some_iff.1 h1
      rw [hce] at h2
      obtain ⟨-, hcl, hcell⟩ := World.cells?_some h2
      obtain ⟨r, hr, hq⟩ := each n cs' elems[i].1 elems[i].2 (Nat.lt_succ_self n) h3
      refine ⟨r, fun k u hu => ?_, by rw [List.length_map]; exact hie, by rw [List.getElem_map]; exact hq⟩
      subst hr
      have hk : k < L.k := by
        have := (List.getElem?_eq_some_iff.1 hu).1
        rwa [L.hk] at this
      have := hcell k hk
      rw [Deep.add_add] at this
      rw [this]
      exact hu
    obtain ⟨q, hq⟩ := Deep.choose_lt each'
    have hrl : ((List.range len).map q).length = len := by rw [List.length_map, List.length_range]
    refine ⟨⟨some a, len, cap⟩, hc, (List.range len).map q, elems.map (·.1), ⟨some a, cap, by rw [hrl]; rfl, by rw [hrl]; exact hl, ?_⟩, ⟨by rw [hrl, List.length_map, hlen], fun j h1 h2 => ?_⟩, ?_⟩
    · by_cases h0 : len = 0
      · left; rw [h0]; rfl
      · right
        obtain ⟨b, off, spot⟩ := a
        have hk0 : 0 < (L.enc (q 0)).length := by rw [L.hk]; exact L.h0
        have hc0 := (hq 0 (by omega)).1 0 _ (List.getElem?_eq_getElem hk0)
        have hspot : spot = none := by simpa [Addr.add] using World.cell?_spot hc0
        subst hspot
        rw [Go.WideShapes.add_plain] at hc0
        refine ⟨b, off, rfl, ?_, ?_, fun j hj i u hu => ?_⟩
        · exact World.block_lt_of_cell? _ _ hc0
        · exact World.block_lt_of_cell? _ _ hc0
        · rw [hrl] at hj
          rw [List.getElem_map, List.getElem_range] at hu
          have := (hq j hj).1 i u hu
          rw [Go.WideShapes.add_plain] at this
          rw [Nat.add_assoc]
          exact this
    · rw [List.getElem_map, List.getElem_range]
      obtain ⟨-, h3, h4⟩ := hq j (by omega)
      exact h4
    · show _ ≤ Rows.uptoBulkAll (elems.map (·.1)) + Rows.uptoBulkAll (rest.map (·.1)) + 1
      omega
theorem open_texts {fuel : Nat} {cs : List Value} {d : DataW H} {p : List MemPlace} (h : DataW.trod enc Tryz.prog W 0 (fun _ => true) true fuel 37 cs = some (d, p)) :
    ∃ s : SlV, cs = [s.val] ∧ ∃ B : List ByteArray, ReadsR strL W (· < W.heap.size) s.val B ∧ wTx B + 1 ≤ Rows.uptoBulk d := by
  obtain ⟨s, hc, R, D, h1, h2, h3⟩ := open_rows strL Tryz.underlying37 (by kernel_rfl) (fun (s : ByteArray) d => d = .lit (.string s.data.toList)) h (fun n cs' d' p' _ hh => by
    obtain ⟨s, rfl, hx, -⟩ := DataW.trod_string Tryz.underlying9 hh
    injection hx with hx
    exact ⟨s, rfl, hx⟩)
  have := h2.eqL
  exact ⟨s, hc, R, h1, by omega⟩
instance : Inhabited ArgT := ⟨⟨0, ⟨#[]⟩, 0, [], false⟩⟩
instance : Inhabited TestT := ⟨.mk ⟨#[]⟩ [] [] 0⟩
instance : Inhabited CmdT := ⟨.mk ⟨#[]⟩ [] [] [] false 0⟩
instance : Inhabited SlV := ⟨⟨none, 0, 0⟩⟩
instance : Inhabited RArg := ⟨⟨0, ⟨#[]⟩, 0, ⟨none, 0, 0⟩, false⟩⟩
instance : Inhabited RTest := ⟨⟨⟨#[]⟩, ⟨none, 0, 0⟩, ⟨none, 0, 0⟩, 0⟩⟩
instance : Inhabited RCmd := ⟨⟨⟨#[]⟩, ⟨none, 0, 0⟩, ⟨none, 0, 0⟩, ⟨none, 0, 0⟩, false, 0⟩⟩
theorem cellsO0 : Tryz.prog.cellsOf 9 = 1 := by kernel_rfl
theorem cellsO1 : Tryz.prog.cellsOf 3 = 1 := by kernel_rfl
theorem cellsO2 : Tryz.prog.cellsOf 4 = 1 := by kernel_rfl
theorem cellsO3 : Tryz.prog.cellsOf 37 = 1 := by kernel_rfl
theorem cellsO4 : Tryz.prog.cellsOf 43 = 1 := by kernel_rfl
theorem cellsO5 : Tryz.prog.cellsOf 44 = 1 := by kernel_rfl
theorem cellsO6 : Tryz.prog.cellsOf 23 = 1 := by kernel_rfl
theorem elems_of {α β : Type} {At : World → (Nat → Prop) → α → β → Prop} {X : Nat → Prop} {R : List α} {B : List β} (h : Pairs (At W X) R B) : Elems At W X R B := ⟨h.1, h.2⟩
set_option maxRecDepth 100000 in
theorem open_args {fuel : Nat} {cs : List Value} {d : DataW H} {p : List MemPlace} (h : DataW.trod enc Tryz.prog W 0 (fun _ => true) true fuel 43 cs = some (d, p)) :
    ∃ s : SlV, cs = [s.val] ∧ ∃ ag : List ArgT, ArgsAt W (· < W.heap.size) s.val ag ∧ (∀ a ∈ ag, argRng a) ∧ wAs ag + 1 ≤ Rows.uptoBulk d := by
  obtain ⟨s, hc, R, D, h1, h2, h3⟩ := open_rows argL Tryz.underlying43 (by kernel_rfl) (fun (r : RArg) d => ∃ a : ArgT, ArgAt W (· < W.heap.size) r a ∧ argRng a ∧ wA a ≤ Rows.uptoBulk d) h (fun n cs' d' p' _ hh => by
    obtain ⟨xs, k, rfl, hx, hlen, hxl, hff⟩ := DataW.trod_struct Tryz.underlying50 hh
    injection hx with hx hp
    subst hx
    have hlen : cs'.length = 5 := hlen.trans (by kernel_rfl)
    match xs, hxl, cs', hlen with
    | [y0, y1, y2, y3, y4], _, [v0, v1, v2, v3, v4], _ =>
      have g0 := hff 0 _ rfl
      have g1 := hff 1 _ rfl
      have g2 := hff 2 _ rfl
      have g3 := hff 3 _ rfl
      have g4 := hff 4 _ rfl
      have g0 : DataW.trod enc Tryz.prog W 0 (fun _ => true) true k 3 (([v0, v1, v2, v3, v4].drop 0).take (Tryz.prog.cellsOf 3)) = some y0 := g0
      have g1 : DataW.trod enc Tryz.prog W 0 (fun _ => true) true k 9 (([v0, v1, v2, v3, v4].drop 1).take (Tryz.prog.cellsOf 9)) = some y1 := g1
      have g2 : DataW.trod enc Tryz.prog W 0 (fun _ => true) true k 3 (([v0, v1, v2, v3, v4].drop 2).take (Tryz.prog.cellsOf 3)) = some y2 := g2
      have g3 : DataW.trod enc Tryz.prog W 0 (fun _ => true) true k 37 (([v0, v1, v2, v3, v4].drop 3).take (Tryz.prog.cellsOf 37)) = some y3 := g3
      have g4 : DataW.trod enc Tryz.prog W 0 (fun _ => true) true k 4 (([v0, v1, v2, v3, v4].drop 4).take (Tryz.prog.cellsOf 4)) = some y4 := g4
      rw [cellsO0] at g1
      rw [cellsO1] at g0 g2
      rw [cellsO3] at g3
      rw [cellsO2] at g4
      obtain ⟨y3, q3⟩ := y3
      obtain ⟨s0, e0, rfl, hs0⟩ := DataW.trod_int Tryz.underlying3 g0
      obtain ⟨s1, e1, rfl, -⟩ := DataW.trod_string Tryz.underlying9 g1
      obtain ⟨s2, e2, rfl, hs2⟩ := DataW.trod_int Tryz.underlying3 g2
      obtain ⟨s3, e3, B, hB, hw3⟩ := open_texts g3
      obtain ⟨s4, e4, rfl⟩ := DataW.trod_bool Tryz.underlying4 g4
      have u0 : v0 = .int .i64 s0 := List.head_eq_of_cons_eq e0
      have u1 : v1 = .string s1 := List.head_eq_of_cons_eq e1
      have u2 : v2 = .int .i64 s2 := List.head_eq_of_cons_eq e2
      have u3 : v3 = s3.val := List.head_eq_of_cons_eq e3
      have u4 : v4 = .bool s4 := List.head_eq_of_cons_eq e4
      subst u0 u1 u2 u3 u4
      refine ⟨⟨s0, s1, s2, s3, s4⟩, rfl, ⟨s0, s1, s2, B, s4⟩, ⟨rfl, rfl, rfl, rfl, hB⟩, i64_of_wf hs2, ?_⟩
      have el : s1.data.toList.length = s1.size := Array.length_toList
      simp only [List.map_cons, List.map_nil, Rows.uptoBulk, Rows.uptoBulkAll, wA]
      omega)
  obtain ⟨ag, ha, hb⟩ := h2.choose
  have hw : wAs ag ≤ Rows.uptoBulkAll D := Pairs.sum (f := wA) rfl (fun _ _ => rfl) (hb.mono fun a d h => h.2)
  exact ⟨s, hc, ag, ⟨R, h1, ha.1, fun j a b => ha.2 j a b⟩, (hb.mono (Q := fun a _ => argRng a) fun a d h => h.1).all, by omega⟩
theorem rTs_all : ∀ {l : List TestT}, (∀ t ∈ l, rT t) → rTs l
  | [], _ => trivial
  | t :: r, h => ⟨h t (by simp), rTs_all fun x hx => h x (by simp [hx])⟩
theorem rCs_all : ∀ {l : List CmdT}, (∀ t ∈ l, rC t) → rCs l
  | [], _ => trivial
  | t :: r, h => ⟨h t (by simp), rCs_all fun x hx => h x (by simp [hx])⟩
set_option maxRecDepth 100000 in
theorem open_tests : ∀ (fuel : Nat) {cs : List Value} {d : DataW H} {p : List MemPlace}, DataW.trod enc Tryz.prog W 0 (fun _ => true) true fuel 44 cs = some (d, p) →
    ∃ s : SlV, cs = [s.val] ∧ ∃ ts : List TestT, TestsAt W (· < W.heap.size) s.val ts ∧ rTs ts ∧ wTs ts + 1 ≤ Rows.uptoBulk d := by
  intro fuel
  induction fuel using Nat.strongRecOn with
  | ind fuel ih =>
    intro cs d p h
    obtain ⟨s, hc, R, D, h1, h2, h3⟩ := open_rows testL Tryz.underlying44 (by kernel_rfl) (fun (r : RTest) d => ∃ a : TestT, TestAt W (· < W.heap.size) r a ∧ rT a ∧ wT a ≤ Rows.uptoBulk d) h (fun n cs' d' p' hn hh => by
      obtain ⟨xs, k, rfl, hx, hlen, hxl, hff⟩ := DataW.trod_struct Tryz.underlying48 hh
      injection hx with hx hp
      subst hx
      have hlen : cs'.length = 4 := hlen.trans (by kernel_rfl)
      match xs, hxl, cs', hlen with
      | [y0, y1, y2, y3], _, [v0, v1, v2, v3], _ =>
        have g0 := hff 0 _ rfl
        have g1 := hff 1 _ rfl
        have g2 := hff 2 _ rfl
        have g3 := hff 3 _ rfl
        have g0 : DataW.trod enc Tryz.prog W 0 (fun _ => true) true k 9 (([v0, v1, v2, v3].drop 0).take (Tryz.prog.cellsOf 9)) = some y0 := g0
        have g1 : DataW.trod enc Tryz.prog W 0 (fun _ => true) true k 43 (([v0, v1, v2, v3].drop 1).take (Tryz.prog.cellsOf 43)) = some y1 := g1
        have g2 : DataW.trod enc Tryz.prog W 0 (fun _ => true) true k 44 (([v0, v1, v2, v3].drop 2).take (Tryz.prog.cellsOf 44)) = some y2 := g2
        have g3 : DataW.trod enc Tryz.prog W 0 (fun _ => true) true k 3 (([v0, v1, v2, v3].drop 3).take (Tryz.prog.cellsOf 3)) = some y3 := g3
        rw [cellsO0] at g0
        rw [cellsO4] at g1
        rw [cellsO5] at g2
        rw [cellsO1] at g3
        obtain ⟨y1, q1⟩ := y1
        obtain ⟨y2, q2⟩ := y2
        obtain ⟨s0, e0, rfl, -⟩ := DataW.trod_string Tryz.underlying9 g0
        obtain ⟨s1, e1, ag, hag, hrg, hw1⟩ := open_args g1
        obtain ⟨s2, e2, ts, hts, hrt, hw2⟩ := ih k (by omega) g2
        obtain ⟨s3, e3, rfl, hs3⟩ := DataW.trod_int Tryz.underlying3 g3
        have u0 : v0 = .string s0 := List.head_eq_of_cons_eq e0
        have u1 : v1 = s1.val := List.head_eq_of_cons_eq e1
        have u2 : v2 = s2.val := List.head_eq_of_cons_eq e2
        have u3 : v3 = .int .i64 s3 := List.head_eq_of_cons_eq e3
        subst u0 u1 u2 u3
        refine ⟨⟨s0, s1, s2, s3⟩, rfl, .mk s0 ag ts s3, ⟨rfl, rfl, hag, hts⟩, ⟨hrg, hrt⟩, ?_⟩
        have el : s0.data.toList.length = s0.size := Array.length_toList
        simp only [List.map_cons, List.map_nil, Rows.uptoBulk, Rows.uptoBulkAll, wT]
        omega)
    obtain ⟨ts, ha, hb⟩ := h2.choose
    have hw : wTs ts ≤ Rows.uptoBulkAll D := Pairs.sum (f := wT) rfl (fun _ _ => rfl) (hb.mono fun a d h => h.2)
    exact ⟨s, hc, ts, .of h1 ⟨ha.1, ha.2⟩, rTs_all (hb.mono (Q := fun a _ => rT a) fun a d h => h.1).all, by omega⟩
set_option maxRecDepth 100000 in
theorem open_cmds : ∀ (fuel : Nat) {cs : List Value} {d : DataW H} {p : List MemPlace}, DataW.trod enc Tryz.prog W 0 (fun _ => true) true fuel 23 cs = some (d, p) →
    ∃ s : SlV, cs = [s.val] ∧ ∃ ts : List CmdT, CmdsAt W (· < W.heap.size) s.val ts ∧ rCs ts ∧ wCs ts + 1 ≤ Rows.uptoBulk d := by
  intro fuel
  induction fuel using Nat.strongRecOn with
  | ind fuel ih =>
    intro cs d p h
    obtain ⟨s, hc, R, D, h1, h2, h3⟩ := open_rows cmdL Tryz.underlying23 (by kernel_rfl) (fun (r : RCmd) d => ∃ a : CmdT, CmdAt W (· < W.heap.size) r a ∧ rC a ∧ wC a ≤ Rows.uptoBulk d) h (fun n cs' d' p' hn hh => by
      obtain ⟨xs, k, rfl, hx, hlen, hxl, hff⟩ := DataW.trod_struct Tryz.underlying46 hh
      injection hx with hx hp
      subst hx
      have hlen : cs'.length = 6 := hlen.trans (by kernel_rfl)
      match xs, hxl, cs', hlen with
      | [y0, y1, y2, y3, y4, y5], _, [v0, v1, v2, v3, v4, v5], _ =>
        have g0 := hff 0 _ rfl
        have g1 := hff 1 _ rfl
        have g2 := hff 2 _ rfl
        have g3 := hff 3 _ rfl
        have g4 := hff 4 _ rfl
        have g5 := hff 5 _ rfl
        have g0 : DataW.trod enc Tryz.prog W 0 (fun _ => true) true k 9 (([v0, v1, v2, v3, v4, v5].drop 0).take (Tryz.prog.cellsOf 9)) = some y0 := g0
        have g1 : DataW.trod enc Tryz.prog W 0 (fun _ => true) true k 43 (([v0, v1, v2, v3, v4, v5].drop 1).take (Tryz.prog.cellsOf 43)) = some y1 := g1
        have g2 : DataW.trod enc Tryz.prog W 0 (fun _ => true) true k 44 (([v0, v1, v2, v3, v4, v5].drop 2).take (Tryz.prog.cellsOf 44)) = some y2 := g2
        have g3 : DataW.trod enc Tryz.prog W 0 (fun _ => true) true k 23 (([v0, v1, v2, v3, v4, v5].drop 3).take (Tryz.prog.cellsOf 23)) = some y3 := g3
        have g4 : DataW.trod enc Tryz.prog W 0 (fun _ => true) true k 4 (([v0, v1, v2, v3, v4, v5].drop 4).take (Tryz.prog.cellsOf 4)) = some y4 := g4
        have g5 : DataW.trod enc Tryz.prog W 0 (fun _ => true) true k 3 (([v0, v1, v2, v3, v4, v5].drop 5).take (Tryz.prog.cellsOf 3)) = some y5 := g5
        rw [cellsO0] at g0
        rw [cellsO4] at g1
        rw [cellsO5] at g2
        rw [cellsO6] at g3
        rw [cellsO2] at g4
        rw [cellsO1] at g5
        obtain ⟨y1, q1⟩ := y1
        obtain ⟨y2, q2⟩ := y2
        obtain ⟨y3, q3⟩ := y3
        obtain ⟨s0, e0, rfl, -⟩ := DataW.trod_string Tryz.underlying9 g0
        obtain ⟨s1, e1, ag, hag, hrg, hw1⟩ := open_args g1
        obtain ⟨s2, e2, ts, hts, hrt, hw2⟩ := open_tests k g2
        obtain ⟨s3, e3, bl, hbl, hrb, hw3⟩ := ih k (by omega) g3
        obtain ⟨s4, e4, rfl⟩ := DataW.trod_bool Tryz.underlying4 g4
        obtain ⟨s5, e5, rfl, hs5⟩ := DataW.trod_int Tryz.underlying3 g5
        have u0 : v0 = .string s0 := List.head_eq_of_cons_eq e0
        have u1 : v1 = s1.val := List.head_eq_of_cons_eq e1
        have u2 : v2 = s2.val := List.head_eq_of_cons_eq e2
        have u3 : v3 = s3.val := List.head_eq_of_cons_eq e3
        have u4 : v4 = .bool s4 := List.head_eq_of_cons_eq e4
        have u5 : v5 = .int .i64 s5 := List.head_eq_of_cons_eq e5
        subst u0 u1 u2 u3 u4 u5
        refine ⟨⟨s0, s1, s2, s3, s4, s5⟩, rfl, .mk s0 ag ts bl s4 s5, ⟨⟨rfl, rfl, rfl⟩, hag, hts, hbl⟩, ⟨hrg, hrt, hrb⟩, ?_⟩
        have el : s0.data.toList.length = s0.size := Array.length_toList
        simp only [List.map_cons, List.map_nil, Rows.uptoBulk, Rows.uptoBulkAll, wC]
        omega)
    obtain ⟨ts, ha, hb⟩ := h2.choose
    have hw : wCs ts ≤ Rows.uptoBulkAll D := Pairs.sum (f := wC) rfl (fun _ _ => rfl) (hb.mono fun a d h => h.2)
    exact ⟨s, hc, ts, .of h1 ⟨ha.1, ha.2⟩, rCs_all (hb.mono (Q := fun a _ => rC a) fun a d h => h.1).all, by omega⟩
set_option maxRecDepth 100000 in
theorem cmds_of {v : Value} {d : DataW H} {p : List MemPlace} {base : Nat} (hv : Value.okWide Tryz.prog W .any base 23 v) (h : DataW.Trod enc Tryz.prog W 0 (fun _ => true) true 23 v d p) :
    ∃ ts : List CmdT, CmdsAt W (· < W.heap.size) v ts ∧ rCs ts ∧ wCs ts + 1 ≤ Rows.uptoBulk d := by
  obtain ⟨fuel, hf⟩ := h
  obtain ⟨a0, len0, cap0, rfl⟩ := WideShapes.okWide_slice Tryz.underlying23 hv
  obtain ⟨s, hc, ts, h1, h2, h3⟩ := open_cmds fuel hf
  have hc : Value.slice a0 len0 cap0 = s.val := List.head_eq_of_cons_eq hc
  rw [hc]
  exact ⟨ts, h1, h2, h3⟩
end
end Go.Proofs.YtgimgkjggaijoaaGreatDoor
