/-
  NARROWER THAN 'FOR EVERY INPUT', by the rows' own cells (each row's printed sentence says how): SubjectTells: laid · SubjectLists: laid · SubjectPlain: laid · SubjectStays: laid.
  DERIVED. THE GIVEN ROWS OF THIS SEAT. 4 by the template 'for every input the law returns true; each argument reads behind the call as it read before'; 0 by the template 'total and deterministic' (their statements: YtmpggcjfmcigmaaDoorTotals.lean).
  GIVEN WITH THE SEED: the statements are not yours to turn. If you find one false, say at which input.
  Laid BY PROGRAM, IN A SANDBOX (cutbox-rows.mjs): the forced cells as the released guide's own fill.sh prints them over the translation b1c212740fe360f4… (all of the seat's roots in one cut). By AI agents, Wed Nov 11 2026. No macro, syntax, notation, axiom, sorry.
-/
import Derived.Test.YtmpggcjfmcigmaaDoorChecked
import GoSem.PinnedTables
import GoSem.Claim
import GoSem.ClaimJoined
import GoSem.ClaimMapViews
import Derived.JoinedTies
import Derived.KernelRfl
namespace Go.Proofs.YtmpggcjfmcigmaaDoor
/- THE CELL 'sum', in the pinned program and in every row, IS THE sha256 OF THE DUMP (.gsa) THAT YtmpggcjfmcigmaaDoorProg.lean LOADS. Nothing in Lean hashes anything: it is a label: what it is worth is what the hold of that sum in a sandbox is worth. -/
noncomputable def Tryd.pinned : Pinned := { name := "ytmpggcjfmcigmaadoor", sum := "b1c212740fe360f4337e6f8b8d54f60df0f49f9fa51090c15bb89c5d5b021d51", checked := Tryd.checked }
namespace Rows
def none {H : Type} : Left H := { results := [], args := [] }

/- WHAT THE LISTED PACKAGE-LEVEL VARIABLES READ AS WHEN THE CALL BEGINS. Each datum BY PROGRAM (the guide's laid-datum.mjs) off the statement by which the dump's own 'gosem.cut.vars' lays the variable. In a bare row this is a premise. The card (YtmpggcjfmcigmaaDoorCards.lean) ties it to the program's text. -/
def laid_unicode_utf8_acceptRanges {H : Type} : DataW H := .agg [.agg [.lit (.int .u8 128), .lit (.int .u8 191)], .agg [.lit (.int .u8 160), .lit (.int .u8 191)], .agg [.lit (.int .u8 128), .lit (.int .u8 159)], .agg [.lit (.int .u8 144), .lit (.int .u8 191)], .agg [.lit (.int .u8 128), .lit (.int .u8 143)], .agg [.lit (.int .u8 0), .lit (.int .u8 0)], .agg [.lit (.int .u8 0), .lit (.int .u8 0)], .agg [.lit (.int .u8 0), .lit (.int .u8 0)], .agg [.lit (.int .u8 0), .lit (.int .u8 0)], .agg [.lit (.int .u8 0), .lit (.int .u8 0)], .agg [.lit (.int .u8 0), .lit (.int .u8 0)], .agg [.lit (.int .u8 0), .lit (.int .u8 0)], .agg [.lit (.int .u8 0), .lit (.int .u8 0)], .agg [.lit (.int .u8 0), .lit (.int .u8 0)], .agg [.lit (.int .u8 0), .lit (.int .u8 0)], .agg [.lit (.int .u8 0), .lit (.int .u8 0)]]
def laid_pouch_fold_spans {H : Type} : DataW H := .slice [.agg [.lit (.int .i32 65), .lit (.int .i32 90), .lit (.int .i32 1), .lit (.int .i32 32)], .agg [.lit (.int .i32 192), .lit (.int .i32 214), .lit (.int .i32 1), .lit (.int .i32 32)], .agg [.lit (.int .i32 216), .lit (.int .i32 222), .lit (.int .i32 1), .lit (.int .i32 32)], .agg [.lit (.int .i32 256), .lit (.int .i32 303), .lit (.int .i32 2), .lit (.int .i32 1)], .agg [.lit (.int .i32 306), .lit (.int .i32 311), .lit (.int .i32 2), .lit (.int .i32 1)], .agg [.lit (.int .i32 313), .lit (.int .i32 328), .lit (.int .i32 2), .lit (.int .i32 1)], .agg [.lit (.int .i32 330), .lit (.int .i32 375), .lit (.int .i32 2), .lit (.int .i32 1)], .agg [.lit (.int .i32 376), .lit (.int .i32 376), .lit (.int .i32 1), .lit (.int .i32 (-121))], .agg [.lit (.int .i32 377), .lit (.int .i32 382), .lit (.int .i32 2), .lit (.int .i32 1)], .agg [.lit (.int .i32 902), .lit (.int .i32 902), .lit (.int .i32 1), .lit (.int .i32 38)], .agg [.lit (.int .i32 904), .lit (.int .i32 906), .lit (.int .i32 1), .lit (.int .i32 37)], .agg [.lit (.int .i32 908), .lit (.int .i32 908), .lit (.int .i32 1), .lit (.int .i32 64)], .agg [.lit (.int .i32 910), .lit (.int .i32 911), .lit (.int .i32 1), .lit (.int .i32 63)], .agg [.lit (.int .i32 913), .lit (.int .i32 929), .lit (.int .i32 1), .lit (.int .i32 32)], .agg [.lit (.int .i32 931), .lit (.int .i32 939), .lit (.int .i32 1), .lit (.int .i32 32)], .agg [.lit (.int .i32 1024), .lit (.int .i32 1039), .lit (.int .i32 1), .lit (.int .i32 80)], .agg [.lit (.int .i32 1040), .lit (.int .i32 1071), .lit (.int .i32 1), .lit (.int .i32 32)]] []
/-- One of Go's own tables, pinned by name: the form's constant. -/
def laid_unicode_utf8_first : DataW Unit := Go.Pinned.utf8First

/-- 'pouchlaw30.SubjectTells': WHATEVER THE INPUT: true; the input reads as it did. -/
def subjectTellsSpec : ChangeSpec := { name := "subjectTells", fn := fun _ => fun
  | [d] => { results := [.lit (.bool true)], args := [d] }
  | _ => none }
def subjectTellsRow : OpenClaim := { program := "ytmpggcjfmcigmaadoor", sum := "b1c212740fe360f4337e6f8b8d54f60df0f49f9fa51090c15bb89c5d5b021d51", func := "pouch/pouchlaw30.SubjectTells", spec := "subjectTells", inPlace := ["internal/abi.NoEscape", "internal/bytealg.IndexByteString", "internal/bytealg.IndexString"], unfollowed := true, recurses := true, named := ["unicode/utf8.first", "unicode/utf8.acceptRanges", "pouch/fold.spans", "internal/bytealg.MaxLen"], apart := false, laid := [("unicode/utf8.acceptRanges", laid_unicode_utf8_acceptRanges), ("pouch/fold.spans", laid_pouch_fold_spans), ("unicode/utf8.first", laid_unicode_utf8_first)] }
def SubjectTellsSaid : Prop := subjectTellsRow.holds Tryd.pinned (OpenSpec.ofChange subjectTellsSpec)

/-- ITS FALSE NEIGHBOUR: 'it returns false'. Refute it at one input. -/
def subjectTellsWrong : ChangeSpec := { name := "subjectTells", fn := fun _ => fun
  | [d] => { results := [.lit (.bool false)], args := [d] }
  | _ => none }
def SubjectTellsWrongFalsely : Prop := subjectTellsRow.holds Tryd.pinned (OpenSpec.ofChange subjectTellsWrong)

/-- 'pouchlaw30.SubjectLists': WHATEVER THE INPUT: true; the input reads as it did. -/
def subjectListsSpec : ChangeSpec := { name := "subjectLists", fn := fun _ => fun
  | [d1, d2] => { results := [.lit (.bool true)], args := [d1, d2] }
  | _ => none }
def subjectListsRow : OpenClaim := { program := "ytmpggcjfmcigmaadoor", sum := "b1c212740fe360f4337e6f8b8d54f60df0f49f9fa51090c15bb89c5d5b021d51", func := "pouch/pouchlaw30.SubjectLists", spec := "subjectLists", inPlace := ["internal/abi.NoEscape", "internal/bytealg.IndexByteString", "internal/bytealg.IndexString"], unfollowed := true, recurses := true, named := ["unicode/utf8.first", "unicode/utf8.acceptRanges", "pouch/fold.spans", "internal/bytealg.MaxLen"], apart := false, laid := [("unicode/utf8.acceptRanges", laid_unicode_utf8_acceptRanges), ("pouch/fold.spans", laid_pouch_fold_spans), ("unicode/utf8.first", laid_unicode_utf8_first)] }
def SubjectListsSaid : Prop := subjectListsRow.holds Tryd.pinned (OpenSpec.ofChange subjectListsSpec)

/-- ITS FALSE NEIGHBOUR: 'it returns false'. Refute it at one input. -/
def subjectListsWrong : ChangeSpec := { name := "subjectLists", fn := fun _ => fun
  | [d1, d2] => { results := [.lit (.bool false)], args := [d1, d2] }
  | _ => none }
def SubjectListsWrongFalsely : Prop := subjectListsRow.holds Tryd.pinned (OpenSpec.ofChange subjectListsWrong)

/-- 'pouchlaw30.SubjectPlain': WHATEVER THE INPUT: true; the input reads as it did. -/
def subjectPlainSpec : ChangeSpec := { name := "subjectPlain", fn := fun _ => fun
  | [d] => { results := [.lit (.bool true)], args := [d] }
  | _ => none }
def subjectPlainRow : OpenClaim := { program := "ytmpggcjfmcigmaadoor", sum := "b1c212740fe360f4337e6f8b8d54f60df0f49f9fa51090c15bb89c5d5b021d51", func := "pouch/pouchlaw30.SubjectPlain", spec := "subjectPlain", inPlace := ["internal/abi.NoEscape", "internal/bytealg.IndexByteString", "internal/bytealg.IndexString"], unfollowed := true, recurses := true, named := ["unicode/utf8.first", "unicode/utf8.acceptRanges", "pouch/fold.spans", "internal/bytealg.MaxLen"], apart := false, laid := [("unicode/utf8.acceptRanges", laid_unicode_utf8_acceptRanges), ("pouch/fold.spans", laid_pouch_fold_spans), ("unicode/utf8.first", laid_unicode_utf8_first)] }
def SubjectPlainSaid : Prop := subjectPlainRow.holds Tryd.pinned (OpenSpec.ofChange subjectPlainSpec)

/-- ITS FALSE NEIGHBOUR: 'it returns false'. Refute it at one input. -/
def subjectPlainWrong : ChangeSpec := { name := "subjectPlain", fn := fun _ => fun
  | [d] => { results := [.lit (.bool false)], args := [d] }
  | _ => none }
def SubjectPlainWrongFalsely : Prop := subjectPlainRow.holds Tryd.pinned (OpenSpec.ofChange subjectPlainWrong)

/-- 'pouchlaw30.SubjectStays': WHATEVER THE INPUT: true; the input reads as it did. -/
def subjectStaysSpec : ChangeSpec := { name := "subjectStays", fn := fun _ => fun
  | [d1, d2] => { results := [.lit (.bool true)], args := [d1, d2] }
  | _ => none }
def subjectStaysRow : OpenClaim := { program := "ytmpggcjfmcigmaadoor", sum := "b1c212740fe360f4337e6f8b8d54f60df0f49f9fa51090c15bb89c5d5b021d51", func := "pouch/pouchlaw30.SubjectStays", spec := "subjectStays", inPlace := ["internal/abi.NoEscape", "internal/bytealg.IndexByteString", "internal/bytealg.IndexString"], unfollowed := true, recurses := true, named := ["unicode/utf8.first", "unicode/utf8.acceptRanges", "pouch/fold.spans", "internal/bytealg.MaxLen"], apart := false, laid := [("unicode/utf8.acceptRanges", laid_unicode_utf8_acceptRanges), ("pouch/fold.spans", laid_pouch_fold_spans), ("unicode/utf8.first", laid_unicode_utf8_first)] }
def SubjectStaysSaid : Prop := subjectStaysRow.holds Tryd.pinned (OpenSpec.ofChange subjectStaysSpec)

/-- ITS FALSE NEIGHBOUR: 'it returns false'. Refute it at one input. -/
def subjectStaysWrong : ChangeSpec := { name := "subjectStays", fn := fun _ => fun
  | [d1, d2] => { results := [.lit (.bool false)], args := [d1, d2] }
  | _ => none }
def SubjectStaysWrongFalsely : Prop := subjectStaysRow.holds Tryd.pinned (OpenSpec.ofChange subjectStaysWrong)

/- THE SECOND FORM. 'bulk': how many values and letters a reading holds, each counted each time it is reached (what is shared counts as often as it is met; a slice's spare places count too). A statement '..UptoSaid' is the law's where the arguments, and the package variables that the reading takes, are together of bulk at most 1048576: NARROWER than '..Said'. Prove '..Said' where nothing that the law and all that it calls make is longer than what came in: it says more and counts as full. Else prove '..UptoSaid'. A law counts once. -/
mutual
def uptoBulk {H : Type} : DataW H → Nat
  | .lit (.string bytes) => bytes.length + 1
  | .lit _ => 1
  | .nil => 1
  | .ptr d => uptoBulk d + 1
  | .slice elems spare => uptoBulkAll elems + uptoBulkAll spare + 1
  | .agg parts => uptoBulkAll parts + 1
  | .iface _ d => uptoBulk d + 1
  | .map entries => uptoBulkEntries entries + 1
  | .held _ => 1
def uptoBulkAll {H : Type} : List (DataW H) → Nat
  | [] => 0
  | d :: r => uptoBulk d + uptoBulkAll r
def uptoBulkEntries {H : Type} : List (Lit × DataW H) → Nat
  | [] => 0
  | x :: r => uptoBulkEntry x + uptoBulkEntries r
def uptoBulkEntry {H : Type} : Lit × DataW H → Nat
  | (.string bytes, d) => bytes.length + uptoBulk d + 1
  | (_, d) => uptoBulk d + 1
 end
def uptoSmall : (H : Type) → List (DataW H) → Bool := fun _ ds => decide (uptoBulkAll ds ≤ 1048576)
def OpenSpec.upto (s : _root_.Go.ChangeSpec) : _root_.Go.OpenSpec := { _root_.Go.OpenSpec.ofChange s with cond := some uptoSmall }

/-- 'pouchlaw30.SubjectTells', WHERE WHAT IT READS IS OF BULK AT MOST 1048576: true; the input reads as it did. -/
def subjectTellsUptoRow : OpenClaim := { program := "ytmpggcjfmcigmaadoor", sum := "b1c212740fe360f4337e6f8b8d54f60df0f49f9fa51090c15bb89c5d5b021d51", func := "pouch/pouchlaw30.SubjectTells", spec := "subjectTells", inPlace := ["internal/abi.NoEscape", "internal/bytealg.IndexByteString", "internal/bytealg.IndexString"], unfollowed := true, recurses := true, named := ["unicode/utf8.first", "unicode/utf8.acceptRanges", "pouch/fold.spans", "internal/bytealg.MaxLen"], apart := false, laid := [("unicode/utf8.acceptRanges", laid_unicode_utf8_acceptRanges), ("pouch/fold.spans", laid_pouch_fold_spans), ("unicode/utf8.first", laid_unicode_utf8_first)], narrowed := true }
def SubjectTellsUptoSaid : Prop := subjectTellsUptoRow.holds Tryd.pinned (OpenSpec.upto subjectTellsSpec)

/-- 'pouchlaw30.SubjectLists', WHERE WHAT IT READS IS OF BULK AT MOST 1048576: true; the input reads as it did. -/
def subjectListsUptoRow : OpenClaim := { program := "ytmpggcjfmcigmaadoor", sum := "b1c212740fe360f4337e6f8b8d54f60df0f49f9fa51090c15bb89c5d5b021d51", func := "pouch/pouchlaw30.SubjectLists", spec := "subjectLists", inPlace := ["internal/abi.NoEscape", "internal/bytealg.IndexByteString", "internal/bytealg.IndexString"], unfollowed := true, recurses := true, named := ["unicode/utf8.first", "unicode/utf8.acceptRanges", "pouch/fold.spans", "internal/bytealg.MaxLen"], apart := false, laid := [("unicode/utf8.acceptRanges", laid_unicode_utf8_acceptRanges), ("pouch/fold.spans", laid_pouch_fold_spans), ("unicode/utf8.first", laid_unicode_utf8_first)], narrowed := true }
def SubjectListsUptoSaid : Prop := subjectListsUptoRow.holds Tryd.pinned (OpenSpec.upto subjectListsSpec)

/-- 'pouchlaw30.SubjectPlain', WHERE WHAT IT READS IS OF BULK AT MOST 1048576: true; the input reads as it did. -/
def subjectPlainUptoRow : OpenClaim := { program := "ytmpggcjfmcigmaadoor", sum := "b1c212740fe360f4337e6f8b8d54f60df0f49f9fa51090c15bb89c5d5b021d51", func := "pouch/pouchlaw30.SubjectPlain", spec := "subjectPlain", inPlace := ["internal/abi.NoEscape", "internal/bytealg.IndexByteString", "internal/bytealg.IndexString"], unfollowed := true, recurses := true, named := ["unicode/utf8.first", "unicode/utf8.acceptRanges", "pouch/fold.spans", "internal/bytealg.MaxLen"], apart := false, laid := [("unicode/utf8.acceptRanges", laid_unicode_utf8_acceptRanges), ("pouch/fold.spans", laid_pouch_fold_spans), ("unicode/utf8.first", laid_unicode_utf8_first)], narrowed := true }
def SubjectPlainUptoSaid : Prop := subjectPlainUptoRow.holds Tryd.pinned (OpenSpec.upto subjectPlainSpec)

/-- 'pouchlaw30.SubjectStays', WHERE WHAT IT READS IS OF BULK AT MOST 1048576: true; the input reads as it did. -/
def subjectStaysUptoRow : OpenClaim := { program := "ytmpggcjfmcigmaadoor", sum := "b1c212740fe360f4337e6f8b8d54f60df0f49f9fa51090c15bb89c5d5b021d51", func := "pouch/pouchlaw30.SubjectStays", spec := "subjectStays", inPlace := ["internal/abi.NoEscape", "internal/bytealg.IndexByteString", "internal/bytealg.IndexString"], unfollowed := true, recurses := true, named := ["unicode/utf8.first", "unicode/utf8.acceptRanges", "pouch/fold.spans", "internal/bytealg.MaxLen"], apart := false, laid := [("unicode/utf8.acceptRanges", laid_unicode_utf8_acceptRanges), ("pouch/fold.spans", laid_pouch_fold_spans), ("unicode/utf8.first", laid_unicode_utf8_first)], narrowed := true }
def SubjectStaysUptoSaid : Prop := subjectStaysUptoRow.holds Tryd.pinned (OpenSpec.upto subjectStaysSpec)

end Rows
end Go.Proofs.YtmpggcjfmcigmaaDoor
