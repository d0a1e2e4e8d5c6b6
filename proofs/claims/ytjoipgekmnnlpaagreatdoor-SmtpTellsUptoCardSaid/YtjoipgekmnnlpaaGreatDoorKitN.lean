/- Small laws of no program: an append to a slice that the call owns, with where its block comes to lie; elements read at any offset within a set of blocks. -/
import Derived.Test.YtjoipgekmnnlpaaGreatDoorKitG
namespace Pk
open Go Go.RowKit

/-- the block of its own is the old one or a new one -/
def NewOwn (w : World) (v v' : Value) : Prop := v'.ownBlock = v.ownBlock ∨ ∀ k, v'.ownBlock = some k → w.heap.size ≤ k
theorem run_append_new {P : Program} (w : World) (base : Nat) (t ty e : TypeId) (i : TypeInfo) (z : Value) (size bytes : Nat) (ht : P.underlying t = some (.slice e)) (hi : P.info? e = some i) (hz : i.zero = some z)
    (hsize : i.size = size) (hby : i.bytes = bytes) (hzs : z.cells.size = size) (hsz : 0 < size)
    (v : Value) (n : Nat) (xs : List Value) (hown : w.ownsRow base e size v n xs)
    (a : Addr) (m c : Nat) (news : List Value) (hl : news.length = m * size) (hnews : ∀ j u, news[j]? = some u → w.cell? (a.add j) = some u) (h1 : ∀ u ∈ news, u.oneCell' = true)
    (h63 : n + m ≤ maxLen) (hbytes : (n + m) * bytes ≤ 140737488355328) (hbase : base ≤ w.heap.size) :
    ∃ v' w', (Builtin.append_ #[t, t] ty #[v, .slice (some a) m c]).run P w = .ok v' w' ∧ w'.ownsRow base e size v' (n + m) (xs ++ news) ∧ w.grownBy w' v.ownBlock ∧ NewOwn w v v' := by
  obtain ⟨v', w', hr, h2, h3, -⟩ := run_append_own (P := P) w base t ty e i z size bytes ht hi hz hsize hby hzs hsz v n xs hown a m c news hl hnews h1 h63 hbytes hbase
  refine ⟨v', w', hr, h2, h3, ?_⟩
  have hsmall : n + m ≤ 9223372036854775807 := by simp only [maxLen] at h63; omega
  rcases hown.2 with ⟨rfl, rfl⟩ | ⟨g, cap, cur, rfl, hbg, hg, hnc, hcm, hcs, htake⟩
  · have hx : xs = [] := List.eq_nil_of_length_eq_zero (by simpa using hown.1)
    subst hx
    obtain ⟨v2, w2, hr2, h4, -, -⟩ := run_append_own (P := P) w w.heap.size t ty e i z size bytes ht hi hz hsize hby hzs hsz (.slice none 0 0) 0 [] (World.ownsRow_nil w _ e size) a m c news hl hnews h1 h63 hbytes (Nat.le_refl _)
    rw [hr] at hr2
    injection hr2 with e1 e2
    subst e1; subst e2
    exact .inr fun k hk => (h4.lt k hk).1
  · by_cases hroom : n + m ≤ cap
    · subst hsize
      have hfit : n * i.size + news.length ≤ cur.size := by rw [hl, hcs, ← Nat.add_mul]; exact Nat.mul_le_mul_right _ hroom
      have hr2 := run_append_room (P := P) w t ty e i ht hi g n cap cur hg a m c news hl hnews h1 hroom hfit
      rw [hr] at hr2
      injection hr2 with e1 e2
      subst e1
      exact .inl rfl
    · subst hsize
      subst hby
      have holds : ∀ j u, xs[j]? = some u → w.cell? ((⟨g, 0, none⟩ : Addr).add j) = some u := hown.cells (g := g) rfl
      have hr2 := run_append_grow (P := P) w t ty e i z ht hi hz ⟨g, 0, none⟩ n cap xs hown.1 holds a m c news hl hnews (by omega) (by omega) (growslice_fits (by omega) hbytes)
      rw [hr] at hr2
      injection hr2 with e1 e2
      subst e1
      exact .inr fun k hk => by injection hk with hk; exact Nat.le_of_eq hk
theorem append_n {α : Type} {L : Lay α} {bytes : Nat} {P : Program} (w : World) {ops : Array Oper} {rest : List Oper} {o : Oper} {a : Act} {Q : Exit → Act → World → Prop} (hgd : o.guard = none) (s x : Operand) {t e : TypeId} (hT : GSl L bytes P t e)
    (ho : o.op = .call { callee := .builtin .append, args := #[s, x], argTypes := #[t, t] }) (B : Nat) (v : Value) (l : List α) (hs : a.eval s = v) (hown : ownsG L w B e v l)
    (ad : Addr) (ys : List α) (m c : Nat) (hx : a.eval x = .slice (some ad) m c) (hm : ys.length = m) (hc : ∀ j u, (ys.flatMap L.enc)[j]? = some u → w.cell? (ad.add j) = some u)
    (hl : (l.length + m) * bytes ≤ 140737488355328) (h63 : l.length + m ≤ 140737488355328) (hB : B ≤ w.heap.size)
    (h : ∀ v' w', ownsG L w' B e v' (l ++ ys) → w.grownBy w' v.ownBlock → NewOwn w v v' → wpList P ops Q rest (a.put o.dst v') w') : wpList P ops Q (o :: rest) a w := by
  obtain ⟨i, z, hi, hz, hzs, hsize, hby⟩ := hT.hi
  refine wpList_plain hgd fun _ hK => ?_
  obtain ⟨v', w', hr, h2, h3, h4⟩ := run_append_new (P := P) w B t o.type e i z L.k bytes hT.ht hi hz hsize hby hzs L.h0 v l.length (l.flatMap L.enc) hown ad m c (ys.flatMap L.enc) (by rw [encG_length, hm]) hc (by intro u hu; obtain ⟨y, _, hy⟩ := List.mem_flatMap.1 hu; exact L.one y u hy) (by unfold maxLen; omega) hl hB
  unfold Oper.wp execOp
  simp only [ho, resolve, invoke, builtin, Sem.run_bind, Sem.run_pure, Result.andThen_ok, List.map_toArray, List.map_cons, List.map_nil, hs, hx, hr]
  refine hK _ _ (h v' w' ?_ h3 h4)
  unfold ownsG
  rw [List.length_append, List.flatMap_append, hm]
  exact h2

/-- elements as they are read, at any offset, in a block of a set -/
def ReadsR {α : Type} (L : Lay α) (w : World) (X : Nat → Prop) (v : Value) (m : List α) : Prop := ∃ p c, v = .slice p m.length c ∧ m.length ≤ c ∧ (m = [] ∨ ∃ g o, p = some ⟨g, o, none⟩ ∧ X g ∧ g < w.heap.size ∧ ∀ j (hj : j < m.length) i u, (L.enc m[j])[i]? = some u → w.cell? ⟨g, o + j * L.k + i, none⟩ = some u)
theorem ReadsR.keeps {α : Type} {L : Lay α} {w w' : World} {X Y : Nat → Prop} {v : Value} {m : List α} (h : ReadsR L w X v m) (hk : ∀ g, X g → g < w.heap.size → w'.heap[g]? = w.heap[g]?) (hs : w.heap.size ≤ w'.heap.size) (hY : ∀ g, X g → Y g) : ReadsR L w' Y v m := by
  obtain ⟨p, c, h1, h2, h3⟩ := h
  refine ⟨p, c, h1, h2, ?_⟩
  rcases h3 with h3 | ⟨g, o, h4, h5, h6, h7⟩
  · exact .inl h3
  · exact .inr ⟨g, o, h4, hY g h5, by omega, fun j hj i u hu => (World.cell?_of_block (hk g h5 h6)).trans (h7 j hj i u hu)⟩
theorem ownsG.reads {α : Type} {L : Lay α} {w : World} {B : Nat} {e : TypeId} {v : Value} {l : List α} (h : ownsG L w B e v l) {X : Nat → Prop} (hX : ∀ g, v.ownBlock = some g → X g) : ReadsR L w X v l := by
  have hs := (h.sees (Nat.le_refl _)).form
  obtain ⟨p, c, rfl, h2, h3⟩ := hs
  refine ⟨p, c, rfl, h2, ?_⟩
  rcases h3 with h3 | ⟨g, rfl, h4, h5⟩
  · exact .inl h3
  · exact .inr ⟨g, 0, rfl, hX g rfl, h4, fun j hj i u hu => by rw [Nat.zero_add]; exact h5 j hj i u hu⟩
theorem ReadsR.nil {α : Type} (L : Lay α) (w : World) (X : Nat → Prop) : ReadsR L w X (.slice none 0 0) [] := ⟨none, 0, rfl, Nat.le_refl _, .inl rfl⟩
/-- a struct laid into a block of its own -/
theorem store_agg {P : Program} {w : World} {ops : Array Oper} {rest : List Oper} {o : Oper} {a : Act} {Q : Exit → Act → World → Prop} (hgd : o.guard = none) (ty : TypeId) (x y : Operand) (ho : o.op = .store ty x y)
    (g : Nat) (cells : Array Value) (hx : a.eval x = .pointer (some ⟨g, 0, none⟩)) (hy : a.eval y = .agg cells)
    (t : TypeId) (old : Array Value) (hg : w.heap[g]? = some (.cells old t (0, 0))) (hi : (P.info? ty).map (·.size) = some cells.size)
    (hold : old.size = cells.size) (h1 : cells.toList.all (·.oneCell') = true)
    (h : ∀ w', w'.heap[g]? = some (.cells cells t) → w.grownBy w' (some g) → wpList P ops Q rest (a.put o.dst undef) w') : wpList P ops Q (o :: rest) a w :=
  wpList_store_row hgd ty x y ho g cells hx hy t old hg hi hold (Array.all_eq_true_iff_forall_mem.2 fun v hv => List.all_eq_true.1 h1 v (by simpa using hv)) (h _ (setRow_heap w g old cells t _ hg) ⟨rfl, rfl, rfl, by simp, fun k _ hk => setRow_other w g k _ (fun e => hk (by rw [e]))⟩)
theorem cell4 {w : World} {g : Nat} {a b c d : Value} {t : TypeId} {f : Nat × Nat} (h : w.heap[g]? = some (.cells #[a, b, c, d] t f)) : w.cell? ⟨g, 0, none⟩ = some a ∧ w.cell? ⟨g, 1, none⟩ = some b ∧ w.cell? ⟨g, 2, none⟩ = some c ∧ w.cell? ⟨g, 3, none⟩ = some d := by
  unfold World.cell?
  simp [h]
end Pk
