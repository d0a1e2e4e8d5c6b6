/- A drawn region within a round of a range over a function, by the laws of one outside: laws of no program. -/
import Derived.Test.YtjoipgekmnnlpaaGreatDoorRfB
import Derived.Deep.RegionHeld3
import Derived.OrdersIn
namespace Pk
open Go Go.RowKit

theorem rowsIn_wide {n : Nat} {P : Program} {row : String} {args : Array Value} {w : World} {R : Value → World → Prop} (h : Rows P row args w R) : RowsIn Fence.wide n P row args w R :=
  fun c cs _ => let ⟨v, w', r, s⟩ := h c cs; ⟨v, w', r, stepsIn_wide.2 s⟩
theorem uponIn_of_upon {l n : Nat} {P : Program} {o : Oper} {a : Act} {K : Act → World → Prop} {Q : Exit → Act → World → Prop} : ∀ (r : Result Next), o.upon P a K Q r → o.uponIn (Fence.wide.inRound l) n P a K Q r := by
  intro r h
  cases r with
  | ok x w' =>
    cases x <;> simp only [Oper.upon, Oper.uponIn] at h ⊢ <;>
      first
        | exact h
        | exact ⟨fun e => by simp [Fence.wide] at e, CallsIn.inRound l (callsIn_wide.2 h)⟩
        | exact ⟨fun e => by simp [Fence.wide] at e, rowsIn_wide h⟩
        | exact h.elim
  | halt x w' => cases x <;> simp only [Oper.upon, Oper.uponIn] at h ⊢ <;> exact h
def isDef : Op → Bool
  | .defer _ => true
  | _ => false
def NoDefer (ops : Array Oper) : Prop := ∀ (i : Nat) (o : Oper) c, ops[i]? = some o → o.op ≠ .defer c
theorem wpAnyIn_of_wpAny {l n : Nat} {P : Program} {md : Region.Mode} {ops : Array Oper} {Q : Exit → Act → World → Prop} (hd : NoDefer ops) (hQ : ¬ LetsOut Q) :
    ∀ (fuel : Nat) (listed : Array Bool) (a : Act) (w : World), wpAny P md ops Q fuel listed a w → wpAnyIn (Fence.wide.inRound l) n P md ops Q fuel listed a w
  | 0, _, _, _, h => h
  | fuel + 1, listed, a, w, h => by
    refine ⟨h.1, fun i hi => ?_⟩
    have h2 := h.2 i hi
    unfold wpOp at h2
    unfold wpOpIn
    cases ho : ops[i]? with
    | none =>
      rw [ho] at h2
      exact wpAnyIn_of_wpAny hd hQ fuel _ _ _ h2
    | some o =>
      rw [ho] at h2
      simp only at h2 ⊢
      split
      · rename_i hw
        rw [if_pos hw] at h2
        rcases h2 with h2 | h2
        · refine ⟨fun _ _ => trivial, ?_⟩
          rw [Oper.semAt_eq _ _ _ (fun c => hd i o c ho)]
          refine uponIn_of_upon _ ?_
          exact Oper.wp_mono (fun a w => wpAnyIn_of_wpAny hd hQ fuel _ a w) h2
        · exact absurd h2.2 hQ
      · rename_i hw
        rw [if_neg hw] at h2
        exact ⟨fun _ _ => trivial, wpAnyIn_of_wpAny hd hQ fuel _ _ _ h2⟩
theorem NoDefer.of {ops : Array Oper} (h : ops.toList.all (fun o => !isDef o.op) = true) : NoDefer ops := fun i o c hi hc => by
  have h2 := List.all_eq_true.1 h o (by rw [← Array.getElem?_toList] at hi; exact List.mem_of_getElem? hi)
  rw [hc] at h2
  exact absurd h2 (by show ¬ (false = true); decide)
/-- Q at the ordinary end alone -/
def OnlyN (Q : Exit → Act → World → Prop) : Exit → Act → World → Prop
  | .normal, a, w => Q .normal a w
  | _, _, _ => False
/-- a drawn region in a round: whatever order is picked, with S held; it must not panic -/
theorem wpIn_region_heldR {l n id : Nat} {P : Program} {ops : Array Oper} {Q : Exit → Act → World → Prop} (S : World → Prop) (m : Nat) {a : Act} {w : World} (hm : P.follows .mixedOrders = true) (hd : ops.toList.all (fun o => !isDef o.op) = true) (hz : ops.size = m) (hS : S w.drew)
    (h : S w.drew → wpAnyH P .any ops (OnlyN Q) S m (Array.replicate m false) a w.drew) : (Code.region id ops true).wpIn (Fence.wide.inRound l) n P Q a w := by
  subst hz
  refine wpIn_mono (Q := OnlyN Q) (wpIn_region_any hm (wpAnyIn_of_wpAny (NoDefer.of hd) (fun ⟨_, _, h⟩ => h) _ _ _ _ (wpAny_of_held _ _ _ _ (h hS)))) ?_
  intro e a w h
  cases e <;> first | exact h | exact (h : False).elim
theorem drop_at {α : Type} {l : List α} {i : Nat} {x : α} {tl : List α} (h : l.drop i = x :: tl) : l.toArray[i]? = some x := by
  rw [List.getElem?_toArray, ← List.head?_drop, h]
  rfl
/-- the i-th operation is taken first -/
theorem takeO {P : Program} {md : Region.Mode} {l tl : List Oper} {Q : Exit → Act → World → Prop} {S : World → Prop} (i : Nat) {oi : Oper} {v : Value} {fuel : Nat} {listed : Array Bool} {a : Act} {w : World} (hi : l.drop i = oi :: tl)
    (hs : Region.noSelect l.toArray = true) (hf : Region.free md l.toArray listed i = true) (hr : (Region.ready md l.toArray listed).contains i = true) (hw : Region.wanted oi (yielded l.toArray a.tmps) = true)
    (hy : ∀ w, S w → (execOp a.eval oi).run P w = .ok (.value v) w) (hS : S w)
    (h : wpAnyH P md l.toArray (OnlyN Q) S fuel (listed.setIfInBounds i true) (a.put oi.dst v) w) : wpAnyH P md l.toArray (OnlyN Q) S (fuel + 1) listed a w :=
  wpAnyH_take (i := i) (drop_at hi) hs hf hr (fun _ _ _ h => h) (Or.inl ⟨hw, hy⟩) hS h
section
variable {P : Program} {md : Region.Mode} {l : List Oper} {Q : Exit → Act → World → Prop} {S : World → Prop} {fuel : Nat} {listed : Array Bool} {a : Act} {w w' : World}
theorem wpOp_value {i : Nat} {oi : Oper} {tl : List Oper} {K : Act → World → Prop} {v : Value} (hi : l.drop i = oi :: tl) (hw : Region.wanted oi (yielded l.toArray a.tmps) = true) (hy : (execOp a.eval oi).run P w = .ok (.value v) w') (h : K (a.put oi.dst v) w') : wpOp P l.toArray (OnlyN Q) i K a w := by
  unfold wpOp
  rw [drop_at hi]
  simp only
  rw [if_pos hw]
  left
  unfold Oper.wp
  rw [hy]
  exact h
theorem wpOp_skip {i : Nat} {oi : Oper} {tl : List Oper} {K : Act → World → Prop} (hi : l.drop i = oi :: tl) (hw : Region.wanted oi (yielded l.toArray a.tmps) = true) (hy : (execOp a.eval oi).run P w = .ok .skip w') (h : K (a.put oi.dst undef) w') : wpOp P l.toArray (OnlyN Q) i K a w := by
  unfold wpOp
  rw [drop_at hi]
  simp only
  rw [if_pos hw]
  left
  unfold Oper.wp
  rw [hy]
  exact h
/-- the i-th operation alone may come: it yields -/
theorem stepO (i : Nat) {oi : Oper} {tl : List Oper} {v : Value} (hi : l.drop i = oi :: tl) (hr : Region.ready md l.toArray listed = [i]) (hw : Region.wanted oi (yielded l.toArray a.tmps) = true) (hy : (execOp a.eval oi).run P w = .ok (.value v) w') (hS : S w')
    (h : wpAnyH P md l.toArray (OnlyN Q) S fuel (listed.setIfInBounds i true) (a.put oi.dst v) w') : wpAnyH P md l.toArray (OnlyN Q) S (fuel + 1) listed a w :=
  wpAnyH_all hr (by simp) fun j hj => by
    rw [List.mem_singleton.1 hj]
    exact wpOp_value hi hw hy ⟨hS, h⟩
theorem skipO (i : Nat) {oi : Oper} {tl : List Oper} (hi : l.drop i = oi :: tl) (hr : Region.ready md l.toArray listed = [i]) (hw : Region.wanted oi (yielded l.toArray a.tmps) = true) (hy : (execOp a.eval oi).run P w = .ok .skip w') (hS : S w')
    (h : wpAnyH P md l.toArray (OnlyN Q) S fuel (listed.setIfInBounds i true) (a.put oi.dst undef) w') : wpAnyH P md l.toArray (OnlyN Q) S (fuel + 1) listed a w :=
  wpAnyH_all hr (by simp) fun j hj => by
    rw [List.mem_singleton.1 hj]
    exact wpOp_skip hi hw hy ⟨hS, h⟩
/-- either of two that yield -/
theorem orO (i j : Nat) {oi oj : Oper} {tl tl' : List Oper} {vi vj : Value} (hi : l.drop i = oi :: tl) (hj : l.drop j = oj :: tl') (hr : Region.ready md l.toArray listed = [i, j]) (hwi : Region.wanted oi (yielded l.toArray a.tmps) = true) (hwj : Region.wanted oj (yielded l.toArray a.tmps) = true)
    (hyi : (execOp a.eval oi).run P w = .ok (.value vi) w) (hyj : (execOp a.eval oj).run P w = .ok (.value vj) w) (hS : S w)
    (h1 : wpAnyH P md l.toArray (OnlyN Q) S fuel (listed.setIfInBounds i true) (a.put oi.dst vi) w) (h2 : wpAnyH P md l.toArray (OnlyN Q) S fuel (listed.setIfInBounds j true) (a.put oj.dst vj) w) : wpAnyH P md l.toArray (OnlyN Q) S (fuel + 1) listed a w :=
  wpAnyH_all hr (by simp) fun k hk => by
    simp only [List.mem_cons, List.not_mem_nil, or_false] at hk
    rcases hk with rfl | rfl
    · exact wpOp_value hi hwi hyi ⟨hS, h1⟩
    · exact wpOp_value hj hwj hyj ⟨hS, h2⟩
/-- either of two that yield, each with its world -/
theorem orG (i j : Nat) {oi oj : Oper} {tl tl' : List Oper} {vi vj : Value} {wi wj : World} (hi : l.drop i = oi :: tl) (hj : l.drop j = oj :: tl') (hr : Region.ready md l.toArray listed = [i, j]) (hwi : Region.wanted oi (yielded l.toArray a.tmps) = true) (hwj : Region.wanted oj (yielded l.toArray a.tmps) = true)
    (hyi : (execOp a.eval oi).run P w = .ok (.value vi) wi) (hyj : (execOp a.eval oj).run P w = .ok (.value vj) wj) (hSi : S wi) (hSj : S wj)
    (h1 : wpAnyH P md l.toArray (OnlyN Q) S fuel (listed.setIfInBounds i true) (a.put oi.dst vi) wi) (h2 : wpAnyH P md l.toArray (OnlyN Q) S fuel (listed.setIfInBounds j true) (a.put oj.dst vj) wj) : wpAnyH P md l.toArray (OnlyN Q) S (fuel + 1) listed a w :=
  wpAnyH_all hr (by simp) fun k hk => by
    simp only [List.mem_cons, List.not_mem_nil, or_false] at hk
    rcases hk with rfl | rfl
    · exact wpOp_value hi hwi hyi ⟨hSi, h1⟩
    · exact wpOp_value hj hwj hyj ⟨hSj, h2⟩
theorem wpOp_call {i : Nat} {oi : Oper} {tl : List Oper} {K : Act → World → Prop} {f : FuncId} {args : Array Value} (hi : l.drop i = oi :: tl) (hw : Region.wanted oi (yielded l.toArray a.tmps) = true) (he : (execOp a.eval oi).run P w = .ok (.enter f args) w) (hc : Calls P f args w fun e w' => ∃ v, e = .returned v ∧ K (a.put oi.dst v) w') : wpOp P l.toArray (OnlyN Q) i K a w := by
  unfold wpOp
  rw [drop_at hi]
  simp only
  rw [if_pos hw]
  left
  unfold Oper.wp
  rw [he]
  refine hc.mono ?_
  rintro e w' ⟨v, rfl, h⟩
  exact h
theorem callO (i : Nat) {oi : Oper} {tl : List Oper} {f : FuncId} {args : Array Value} (hi : l.drop i = oi :: tl) (hr : Region.ready md l.toArray listed = [i]) (hw : Region.wanted oi (yielded l.toArray a.tmps) = true) (he : (execOp a.eval oi).run P w = .ok (.enter f args) w)
    (hc : Calls P f args w fun e w' => ∃ v, e = .returned v ∧ S w' ∧ wpAnyH P md l.toArray (OnlyN Q) S fuel (listed.setIfInBounds i true) (a.put oi.dst v) w') : wpAnyH P md l.toArray (OnlyN Q) S (fuel + 1) listed a w :=
  wpAnyH_all hr (by simp) fun j hj => by
    rw [List.mem_singleton.1 hj]
    exact wpOp_call hi hw he hc
/-- either of two -/
theorem bothO (i j : Nat) (hr : Region.ready md l.toArray listed = [i, j]) (h1 : wpOp P l.toArray (OnlyN Q) i (fun a' w' => S w' ∧ wpAnyH P md l.toArray (OnlyN Q) S fuel (listed.setIfInBounds i true) a' w') a w)
    (h2 : wpOp P l.toArray (OnlyN Q) j (fun a' w' => S w' ∧ wpAnyH P md l.toArray (OnlyN Q) S fuel (listed.setIfInBounds j true) a' w') a w) : wpAnyH P md l.toArray (OnlyN Q) S (fuel + 1) listed a w :=
  wpAnyH_all hr (by simp) fun k hk => by
    simp only [List.mem_cons, List.not_mem_nil, or_false] at hk
    rcases hk with rfl | rfl
    · exact h1
    · exact h2
theorem doneO (hr : Region.ready md l.toArray listed = []) (h : Q .normal a w) : wpAnyH P md l.toArray (OnlyN Q) S fuel listed a w := wpAnyH_done (Q := OnlyN Q) hr h fuel
/-- an append -/
theorem run_appO {o : Oper} {s x : Operand} {t tx : TypeId} {v v' xv : Value} (ho : o.op = .call { callee := .builtin .append, args := #[s, x], argTypes := #[t, tx] }) (hs : a.eval s = v) (hx : a.eval x = xv) (hr : (Builtin.append_ #[t, tx] o.type #[v, xv]).run P w = .ok v' w') : (execOp a.eval o).run P w = .ok (.value v') w' := by
  unfold execOp
  simp only [ho, resolve, invoke, builtin, Sem.run_bind, Sem.run_pure, Result.andThen_ok, List.map_toArray, List.map_cons, List.map_nil, hs, hx, hr]
end
/-- a drawn region outside a round, likewise -/
theorem wp_region_heldO {id : Nat} {P : Program} {ops : Array Oper} {Q : Exit → Act → World → Prop} (S : World → Prop) (m : Nat) {a : Act} {w : World} (hm : P.follows .mixedOrders = true) (hz : ops.size = m) (hS : S w.drew)
    (h : S w.drew → wpAnyH P .any ops (OnlyN Q) S m (Array.replicate m false) a w.drew) : (Code.region id ops true).wp P Q a w := by
  subst hz
  refine Code.wp_mono (Q := OnlyN Q) (fun e a w h => ?_) (wp_region_held hm (h hS))
  cases e <;> first | exact h | exact (h : False).elim
end Pk
