/- What chapter 22's rows give their walks: the texts of the replies. -/
import Derived.Test.YtjoipgekmnnlpaaGreatDoorCards
import Derived.Test.YtjoipgekmnnlpaaGreatDoorTie
import Derived.WalkKit
import Derived.ProofKit
import Derived.OpenShut
import Derived.ChangeMaps5
import Derived.Deep.DeepHandedRow
import Derived.Deep.DeepWitnessRowRef
import Derived.LaidMore
import Derived.Lib.LaidTab
import Derived.Lib.LaidU8
import Derived.Maps.Own
import Derived.Maps.StringElems
import Derived.Test.YtjoipgekmnnlpaaGreatDoorSmAd
namespace Go.Proofs.YtjoipgekmnnlpaaGreatDoor
open Go.ChangeShapes Go.WideShapes Go.ChangeAt Go.RowKit Go.WideElems Lib Sm

def strOf : DataW Unit → Option (List UInt8)
  | .lit (.string l) => some l
  | _ => none
theorem strOf_some {d : DataW Unit} {l : List UInt8} (h : strOf d = some l) : d = .lit (.string l) := by
  unfold strOf at h
  split at h
  · injection h with h; subst h; rfl
  · cases h
theorem said_at : ∀ n : Nat, n < 1000 → strOf ((Rows.laid_pouch_smtp_said : DataW Unit).atKey (.int .i64 n) (.lit (.string []))) = some (saidW n) := by decide +kernel
theorem zeroSt (w : World) : (zeroValue 9).run Tryz.prog w = .ok (.string ⟨#[]⟩) w := by kernel_rfl
theorem said_of {W : World} (h : laidMet Tryz.prog Rows.smtpTellsRow.laid W) : SaidAt W := by
  obtain ⟨g, t, cs, f, p, hg, ht, hv, hd⟩ := Lib.laidMet.reads h (n := "pouch/smtp.said") (.tail _ (.tail _ (.tail _ (.tail _ (.tail _ (.tail _ (.head _)))))))
  have e1 := show Tryz.prog.globalNamed "pouch/smtp.said" = some 0 by kernel_rfl
  obtain rfl := Option.some.inj (e1.symm.trans hg)
  obtain rfl := Option.some.inj ((show (Tryz.prog.globals[0]?).map (·.type) = some 85 by kernel_rfl).symm.trans ht)
  generalize hD : (Rows.laid_pouch_smtp_said : DataW Unit) = D at hd
  have hsaid := said_at
  rw [hD] at hsaid
  clear hD
  rcases open_map Tryz.underlying85 hd with ⟨-, hx⟩ | ⟨bm, es, clock, m, -, hcs, hb, -, F, hx⟩
  · have hx := congrArg Prod.fst hx
    have hx : D = .nil := hx
    subst hx
    exact absurd (hsaid 220 (by decide)) (by decide)
  · have hx := congrArg Prod.fst hx
    have hx : D = _ := hx
    have hc : cs = #[.map (some bm)] := by rw [← Array.toList_inj, hcs]
    rw [hc] at hv
    refine ⟨bm, World.var?_cell e1 hv 0, fun wr hw n hn => ?_⟩
    have hbw : wr.heap[bm]? = some (.map es clock) := (hw.block bm (lt_of_block hb)).trans hb
    have hk := Maps.keyOf_int_mk (P := Tryz.prog) (k := 3) Tryz.underlying3 (a := (n : Int)) (WalkArith.wf_i64 (n := (n : Int)) ⟨by omega, by omega⟩)
    have hs := strOf_some (hsaid n hn)
    rw [hx] at hs
    rcases Maps.fit_look false (Maps.int_keyed Tryz.underlying3) Tryz.underlying85 (zeroSt wr) hbw F hk with ⟨hrun, -, hat⟩ | ⟨e0, y, -, -, hrun, hRv, hat, -⟩
    · rw [hat] at hs
      have hs := Lit.string.inj (DataW.lit.inj hs)
      rw [hrun, ← hs]
      rfl
    · obtain ⟨s, hv2, hy, -⟩ := WideElems.elemAt_string Tryz.underlying9 hRv
      rw [hat, hy] at hs
      have hs := Lit.string.inj (DataW.lit.inj hs)
      rw [hrun, ← hs, bt_back, hv2]
      rfl
end Go.Proofs.YtjoipgekmnnlpaaGreatDoor
