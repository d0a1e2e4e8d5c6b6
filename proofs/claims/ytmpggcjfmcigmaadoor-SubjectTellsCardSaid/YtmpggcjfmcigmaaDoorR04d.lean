/- Walks of the reference pouchref04: first, the walk. -/
import Derived.Test.YtmpggcjfmcigmaaDoorR04c
import Derived.OwnWalk
namespace Go.Proofs.YtmpggcjfmcigmaaDoor
open Go.RowKit Pk U8 Su Fo

def firstV (l : List UInt8) : Int × Int × Bool := if l = [] then (0, 0, false) else ((dec l).1, (dec l).2, decide (1 ≤ (dec l).2 ∧ (at' l 0 < 128 ∨ 1 < (dec l).2)))
def FirstIs (V : Int × Int × Bool) (w : World) (e : Ending) (w' : World) : Prop := e = .returned (.tuple #[.int .i64 V.1, .int .i64 V.2.1, .bool V.2.2]) ∧ Below w.heap.size w w'
theorem firstV_hit {l : List UInt8} {n m : Nat} (hl : l ≠ []) (hs : Sca n) (hm : m ≤ l.length) (he : Lib.encodeRune (n : Int) = l.take m) : firstV l = ((n : Int), (m : Int), true) := by
  obtain ⟨h1, h2⟩ := hit_okay hs hm he
  have w := (dec_width l hl).1
  unfold firstV
  rw [if_neg hl]
  have h3 : decide (1 ≤ (dec l).2 ∧ (at' l 0 < 128 ∨ 1 < (dec l).2)) = true := decide_eq_true ⟨w, h2⟩
  rw [h3, h1]
theorem firstV_bad {l : List UInt8} (hl : l ≠ []) (h : ¬ Okay l) : firstV l = (65533, 1, false) := by
  have h1 := dec_bad l h
  unfold firstV
  rw [if_neg hl]
  have h3 : decide (1 ≤ (dec l).2 ∧ (at' l 0 < 128 ∨ 1 < (dec l).2)) = false := decide_eq_false fun hx => h hx.2
  rw [h3, h1]; rfl
end Go.Proofs.YtmpggcjfmcigmaaDoor
