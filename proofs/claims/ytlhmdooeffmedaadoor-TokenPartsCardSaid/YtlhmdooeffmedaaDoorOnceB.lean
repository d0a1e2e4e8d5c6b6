/- Walks: sync.Once.Do of a Replacer's buildOnce, the first time. -/
import Derived.Test.YtlhmdooeffmedaaDoorOnce
namespace Go.Proofs.YtlhmdooeffmedaaDoor
open Go.RowKit Pk

def OnceAt (w : World) (b : Nat) (d m : Int) : Prop := w.cell? ⟨b, 0, none⟩ = some (.int .u32 d) ∧ w.cell? ⟨b, 1, none⟩ = some (.int .i32 m) ∧ w.frozen? ⟨b, 0, none⟩ = false ∧ w.frozen? ⟨b, 1, none⟩ = false
set_option maxRecDepth 100000 in
set_option maxHeartbeats 1600000 in
theorem slow_any (b : Nat) (Pst : World → Prop) (w : World) (hO : OnceAt w b 0 0)
    (hF : Calls Tryd.prog 29 #[.pointer (some ⟨b, 0, none⟩)] (w.setCell ⟨b, 1, none⟩ (.int .i32 1)) fun e w2 => e = .returned (.tuple #[]) ∧ OnceAt w2 b 0 1 ∧ Pst w2) :
    Calls Tryd.prog 34 #[.pointer (some ⟨b, 0, none⟩), .func (.func 29) #[.pointer (some ⟨b, 0, none⟩)] #[]] w fun e w' => e = .returned (.tuple #[]) ∧ ∃ w2, Pst w2 ∧ w' = (w2.drew.setCell ⟨b, 0, none⟩ (.int .u32 1)).setCell ⟨b, 1, none⟩ (.int .i32 0) := by
  obtain ⟨h0, h1, f0, f1⟩ := hO
  have hl := run_call_load (P := Tryd.prog) Tryd.func40 (by kernel_rfl) (by kernel_rfl) (by kernel_rfl) .u32 (by kernel_rfl) (w := w.setCell ⟨b, 1, none⟩ (.int .i32 1)) (a := ⟨b, 0, none⟩) (x := 0) ((World.cell?_setCell_other _ ⟨b, 1, none⟩ ⟨b, 0, none⟩ _ (by simp)).trans h0)
  have hnot : ∀ (x : Bool) (w : World), (Op.unary .not (.bool x)).run Tryd.prog w = .ok (.bool (!x)) w := fun _ _ => rfl
  have HF := Lib.hid hF
  clear hF
  go_enter_defers Tryd.func34, Tryd.ntmps34
  go_wp2_with (first
    | (go_at_call 41; refine (lock_free ⟨b, 1, none⟩ _ (by go_simp) (by go_simp)).mono ?_; rintro e w' ⟨rfl, rfl⟩)
    | (go_at_call 33; go_in)
    | (go_at_call 29; refine HF.out.mono ?_; rintro e w2 ⟨rfl, ⟨g0, g1, k0, k1⟩, hP⟩))
  simp only [bodyPostD]
  refine leaves_cons (f := 43) (args := #[.pointer (some ⟨b, 0, none⟩), .bool true]) (by simp) (by simp [go_sem]) ?_
  refine (store_deferred ⟨b, 0, none⟩ (.int .u32 0) .returning _ g0 k0).mono ?_
  rintro e u' w'' ⟨rfl, rfl, rfl⟩
  refine leaves_cons (f := 42) (args := #[.pointer (some ⟨b, 1, none⟩)]) (by simp [settle]) (by simp [go_sem]) ?_
  refine (unlock_deferred ⟨b, 1, none⟩ _ _ ?_ (by simp [k1])).mono ?_
  · refine (World.cell?_setCell_other _ ⟨b, 0, none⟩ ⟨b, 1, none⟩ _ (by simp)).trans ?_
    rw [World.cell?_drew]
    exact g1
  rintro e u' w'' ⟨rfl, rfl, rfl⟩
  simp [Leaves, settle, results, Tryd.results34]
  exact ⟨w2, hP, rfl⟩
set_option maxRecDepth 100000 in
set_option maxHeartbeats 1600000 in
/-- '(*sync.Once).Do', not yet done, the lock free. -/
theorem do_first (b : Nat) (Pst : World → Prop) (w : World) (hO : OnceAt w b 0 0)
    (hF : Calls Tryd.prog 29 #[.pointer (some ⟨b, 0, none⟩)] (w.setCell ⟨b, 1, none⟩ (.int .i32 1)) fun e w2 => e = .returned (.tuple #[]) ∧ OnceAt w2 b 0 1 ∧ Pst w2) :
    Calls Tryd.prog 28 #[.pointer (some ⟨b, 0, none⟩), .func (.func 29) #[.pointer (some ⟨b, 0, none⟩)] #[]] w fun e w' => e = .returned (.tuple #[]) ∧ ∃ w2, Pst w2 ∧ w' = (w2.drew.setCell ⟨b, 0, none⟩ (.int .u32 1)).setCell ⟨b, 1, none⟩ (.int .i32 0) := by
  have hs := Lib.hid (slow_any b Pst w hO hF)
  have hl := run_call_load (P := Tryd.prog) Tryd.func40 (by kernel_rfl) (by kernel_rfl) (by kernel_rfl) .u32 (by kernel_rfl) hO.1
  have hnot : ∀ (x : Bool) (w : World), (Op.unary .not (.bool x)).run Tryd.prog w = .ok (.bool (!x)) w := fun _ _ => rfl
  clear hF hO
  go_enter Tryd.func28, Tryd.ntmps28
  go_wp2_with (first | (go_at_call 34; refine hs.out.mono ?_; rintro e w' ⟨rfl, hw⟩) | (go_at_call 33; go_in))
  go_end0
  exact ⟨rfl, hw⟩
end Go.Proofs.YtlhmdooeffmedaaDoor
