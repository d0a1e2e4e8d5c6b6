/- A range over an iterator that keeps its state in a captured variable (a box), whose body never leaves the loop: a law of no program. -/
import Derived.Test.YtjoipgekmnnlpaaGreatDoorKitX
import Derived.RangeFuncNested
import Derived.RangeFuncBound
import Derived.RangeFuncCalls
import Derived.RangeFuncLeaves
import Derived.RangeFuncBox
namespace Pk
open Go Go.RowKit

/-- what abides new blocks and a store into box b -/
structure Calm {β : Type} (b : Nat) (t : TypeId) (J : β → World → Prop) : Prop where
  grow : ∀ s W W', J s W → W.grownBy W' none → J s W'
  box : ∀ s W u v, J s W → Boxed W b t u → J s (W.setCell ⟨b, 0, none⟩ v)
/-- the iterator hands on the elements of some list with S, one by one; it writes box b alone; Ok: what may have come -/
def GivesBox {α : Type} (F : Fence) (n : Nat) (P : Program) (g : Nat) (lb : Array Value) (encs : α → Array Value) (b : Nat) (t : TypeId) (Kp : World → World → Prop) (Ok S : List α → Prop) (w : World) : Prop :=
  ∀ (l : Nat) (J : List α → World → Prop) (W : World), Below w.heap.size w W → Calm b t J →
    (∀ pre x W1, Ok (pre ++ [x]) → J pre W1 → YieldAt F (n - 1) P l (encs x) W1 fun e W' => e = .returned (.bool true) ∧ J (pre ++ [x]) W' ∧ Kp W1 W') →
    J [] W → CallsIn F n P g (#[.func (.yield l) #[] #[]] ++ lb) W fun e W' => (∃ v, e = .returned v) ∧ ∃ xs, S xs ∧ J xs W'
/-- how the body of a round is left: it goes on -/
def goesOn {α : Type} (B : Nat) (Kp : World → World → Prop) (I : List α → World → Prop) (xs : List α) (W : World) : Exit → Act → World → Prop
  | .normal, _, W' => KeepsFrom B W W' ∧ Kp W W' ∧ I xs W'
  | _, _, _ => False
theorem wpIn_range_box {F : Fence} {n : Nat} {P : Program} {α : Type} {g : Operand} {ps : Array Tmp} {assign body : Code} {Q : Exit → Act → World → Prop} {a : Act} {w : World}
    (hro : F.round = none) (h1 : 1 ≤ n) {gf : Nat} {lb : Array Value} (hg : a.eval g = .func (.func gf) #[] lb) (hFg : F.fn gf) (eg : ∀ args w, (callFunc gf args).run P w = .ok (.enter gf args) w)
    {encs : α → Array Value} {b : Nat} {t : TypeId} {Kp : World → World → Prop} {Ok S : List α → Prop} {w0 : World} (hseq : GivesBox F (n - 1) P gf lb encs b t Kp Ok S w0) (hb : b < w.heap.size)
    (hKt : ∀ {A B C : World}, Kp A B → Kp B C → Kp A C) (hKb : ∀ (W : World) (l : Nat) (o o' : Obj), w.heap.size ≤ l → W.heap[l]? = some o → o.isCells = false → o.isWalk = false → Kp W (W.putObj l o'))
    (hb0 : Below w0.heap.size w0 w) (hps : ∀ x, (encs x).size = ps.size) (I : List α → World → Prop) (hI : OwnFrom w.heap.size I) (hIb : ∀ s W u v, I s W → Boxed W b t u → I s (W.setCell ⟨b, 0, none⟩ v)) (h0 : I [] w) (a₁ : α → Act)
    (hassign : ∀ (l : Nat) (x : α) (W : World) (K : Act → World → Prop), K (a₁ x) W →
      assign.wpIn (F.inRound l) (n - 1 - 1) P (Exit.then K (fun _ _ _ => False)) { tmps := (ps.zip (encs x)).foldl (fun t (p, v) => t.setIfInBounds p v) a.tmps, defers := [] } W)
    (hbody : ∀ (l : Nat) (pre : List α) (x : α) (W : World), Ok (pre ++ [x]) → I pre W → body.wpIn (F.inRound l) (n - 1 - 1) P (goesOn w.heap.size Kp I (pre ++ [x]) W) (a₁ x) W)
    (hdone : ∀ (D : Nat) (xs : List α) (W : World), w.heap.size ≤ D → S xs → I xs W → W.heap[D]? = some (.deferred (some [])) → Q .normal { a with defers := { target := .collected D, args := #[] } :: a.defers } W) :
    (Code.rangeFunc g ps assign body).wpIn F n P Q a w := by
  refine wpIn_rangeFunc fun fn hfn => ?_
  rw [hro]
  -- the two blocks that the loop lays: the deferred calls, then the record
  have hD : (w.alloc (.deferred (some []))).heap.size = w.heap.size + 1 := World.size_alloc ..
  obtain ⟨R, hR⟩ : ∃ R : LoopState → Loop, R = fun st => { state := st, pending := none, fn, tmps := a.tmps, params := ps, assign, body, defers := w.heap.size } := ⟨_, rfl⟩
  obtain ⟨V, hV⟩ : ∃ V, V = (w.alloc (.deferred (some []))).alloc (.loop (R .ready)) := ⟨_, rfl⟩
  have r0 : V.heap[w.heap.size + 1]? = some (.loop (R .ready)) := by
    have := World.alloc_heap_new (w.alloc (.deferred (some []))) (.loop (R .ready))
    rw [hV]; rwa [hD] at this
  have d0 : V.heap[w.heap.size]? = some (.deferred (some [])) := by
    have e1 := Below.heap_alloc (w.alloc (.deferred (some []))) (.loop (R .ready)) w.heap.size (by omega)
    rw [hV]; exact e1.trans (World.alloc_heap_new w _)
  have i0 : I [] V := by rw [hV]; exact hI.alloc _ (hI.alloc _ h0)
  have bl : Below w0.heap.size w0 V := by
    rw [hV]
    have e1 : Below w0.heap.size w (w.alloc (.deferred (some []))) := (Below.refl _ w).alloc hb0.size _
    exact hb0.trans (e1.alloc (by rw [hD]; have := hb0.size; omega) _)
  let J : List α → World → Prop := fun s W => I s W ∧ W.heap[w.heap.size + 1]? = some (.loop (R .ready)) ∧ W.heap[w.heap.size]? = some (.deferred (some []))
  have hJ : Calm b t J := by
    refine ⟨fun s X Y hs hgr => ?_, fun s X u v hs hbx => ?_⟩
    · have keep : ∀ (k : Nat) (o : Obj), X.heap[k]? = some o → Y.heap[k]? = some o := fun k o hk => (hgr.block k (Array.getElem?_eq_some_iff.1 hk).1 (by simp)).trans hk
      exact ⟨hI s X Y none hs.1 hgr (fun r e => by cases e), keep _ _ hs.2.1, keep _ _ hs.2.2⟩
    · have far : ∀ (k : Nat) (o : Obj), k ≠ b → X.heap[k]? = some o → (X.setCell ⟨b, 0, none⟩ v).heap[k]? = some o := fun k o hk ho => (Below.heap_setCell X ⟨b, 0, none⟩ v k hk).trans ho
      exact ⟨hIb s X u v hs.1 hbx, far _ _ (by omega) hs.2.1, far _ _ (by omega) hs.2.2⟩
  refine ⟨w.heap.size + 1, [{ target := .collected w.heap.size, args := #[] }], V, { target := .fn (.func gf) lb, args := #[.func (.yield (w.heap.size + 1)) #[] #[]] }, V, gf,
    #[.func (.yield (w.heap.size + 1)) #[] #[]] ++ lb, V, by rw [hV, hR]; exact run_enterLoop_outer _ _ _ _ _, by simp only [resolve, hg]; simp [go_sem],
    fun f' hf' => by simp [Target.leads] at hf'; subst hf'; exact hFg, by simp [invoke, go_sem, eg], fun _ => h1, ?_⟩
  refine (hseq (w.heap.size + 1) J V bl hJ ?round ⟨i0, r0, d0⟩).mono ?after
  case after =>
    rintro e W2 ⟨⟨v, rfl⟩, xs, hS, hi, hr, hd⟩
    refine ⟨none, _, by have := run_endLoop (P := P) hr (by rw [hR]; simp); rw [hR] at this; exact this, ?_⟩
    refine hdone _ xs _ (Nat.le_refl _) hS (hI.putObj _ hi (by omega) hr rfl) ?_
    rw [World.putObj_heap_other (by omega)]
    exact hd
  case round =>
    rintro pre x W1 hok ⟨hi, hr, hd⟩
    have hlt : w.heap.size + 1 < W1.heap.size := (Array.getElem?_eq_some_iff.1 hr).1
    have y0 := run_yield (P := P) (args := encs x) hr (by rw [hR]; exact hps x)
    have y1 := run_beginRound (P := P) hr (by rw [hR])
    rw [hR] at y0 y1
    refine ⟨fn, _, assign, body, y0, roundIn_of_wpIn hfn (hassign _ x W1 _ ⟨_, y1, ?_⟩)⟩
    obtain ⟨U, hU⟩ : ∃ U, U = W1.putObj (w.heap.size + 1) (.loop { R .ready with state := .busy }) := ⟨_, rfl⟩
    have ru : U.heap[w.heap.size + 1]? = some (.loop { R .ready with state := .busy }) := by rw [hU]; exact World.putObj_heap_same hlt
    have du : U.heap[w.heap.size]? = some (.deferred (some [])) := by rw [hU, World.putObj_heap_other (by omega)]; exact hd
    have ku : Kp W1 U := by rw [hU]; exact hKb _ _ _ _ (by omega) hr rfl rfl
    have iu : I pre U := by rw [hU]; exact hI.putObj _ hi (by omega) hr rfl
    rw [hR] at hU
    rw [← hU]
    refine wpIn_mono (hbody _ pre x U hok iu) ?_
    intro e a3 W3 hp
    cases e with
    | normal =>
      obtain ⟨k3, p3, i3⟩ := hp
      have r3 := k3.same _ _ (by omega) ru rfl
      have d3 := k3.same _ _ (Nat.le_refl _) du rfl
      have y2 := run_endRound (P := P) none r3
      have hlt3 := (Array.getElem?_eq_some_iff.1 r3).1
      refine ⟨_, _, y2, rfl, ⟨hI.putObj _ i3 (by omega) r3 rfl, ?_, ?_⟩, hKt (hKt ku p3) (hKb _ _ _ _ (by omega) r3 rfl rfl)⟩
      · rw [World.putObj_heap_same hlt3, hR]; rfl
      · rw [World.putObj_heap_other (by omega)]; exact d3
    | ret => exact hp.elim
    | exit id => exact hp.elim
    | goto c => exact hp.elim
    | panic c => exact hp.elim
    | outgrown => exact hp.elim
end Pk
