/- Walks: strings.NewReplacer. -/
import Derived.Test.YtlhmdooeffmedaaDoorOnceB
import Derived.Test.YtlhmdooeffmedaaDoorKitX
namespace Go.Proofs.YtlhmdooeffmedaaDoor
open Go.RowKit Pk

theorem sslR : StrSl Tryd.prog 54 9 where
  ht := Tryd.underlying54
  hi := info_parts (show (Tryd.prog.info? 9).map (fun i => (i.zero, i.size, i.bytes)) = some (some (.string ⟨#[]⟩), 1, 16) by kernel_rfl)
theorem own_shapeR {w : World} {B : Nat} {e : TypeId} {v : Value} {l : List ByteArray} (h : ownsS w B e v l) : ∃ p c, v = .slice p l.length c := by
  rcases h.2 with ⟨h1, h2⟩ | ⟨g, cap, cur, h1, -⟩
  · exact ⟨none, 0, by rw [h1, h2]⟩
  · exact ⟨_, _, h1⟩
/-- a new Replacer -/
def RepIs (xs : List ByteArray) (w : World) (e : Ending) (w' : World) : Prop := ∃ r v, e = .returned (.pointer (some ⟨r, 0, none⟩)) ∧ w'.heap[r]? = some (.cells #[.int .u32 0, .int .i32 0, .int .u32 0, .nilIface, v] 71 (0, 0)) ∧ ownsS w' w.heap.size 9 v xs ∧ w.heap.size ≤ r ∧ Below w.heap.size w w'
set_option maxRecDepth 100000 in
theorem newRep_any (g c n : Nat) (xs : List ByteArray) (w : World) (hn : xs.length = n) (h2 : (n : Int).tmod 2 = 0) (hc : ∀ j u, (xs.map strV)[j]? = some u → w.cell? ((⟨g, 0, none⟩ : Addr).add j) = some u) (hl : n ≤ 1000) :
    Calls Tryd.prog 18 #[.slice (some ⟨g, 0, none⟩) n c] w (RepIs xs w) := by
  have hz : ownsS w w.heap.size 9 (.slice none 0 0) [] := ownsS.nil _ _ _
  have hw2 : IntKind.i64.wrap ((n : Int).tmod 2) = 0 := by rw [h2]; rfl
  go_enter Tryd.func18, Tryd.ntmps18
  go_wp2_with (at_builtin; refine append_str _ rfl (.const (.slice none 0 0)) (.tmp 8) sslR rfl w.heap.size _ _ rfl hz ⟨g, 0, none⟩ n c xs rfl hn hc (by simp; omega) (Nat.le_refl _) ?_; intro v6 w6 hown6 hg6; have hb6 := Below_grownS (Below.refl _ w) hz hg6 (Nat.le_refl _); rw [List.nil_append] at hown6; obtain ⟨p6, c6, rfl⟩ := own_shapeR hown6; rw [hn] at hown6; clear hg6)
  go_ret
  exact ⟨w6.heap.size, _, rfl, heap_alloc_new w6 _, ownsS.alloc hown6 _, hb6.size, hb6.alloc hb6.size _⟩
end Go.Proofs.YtlhmdooeffmedaaDoor
