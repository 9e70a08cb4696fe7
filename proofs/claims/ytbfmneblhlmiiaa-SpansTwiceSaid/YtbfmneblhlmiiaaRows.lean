/-
  No cell of these rows narrows 'for every input' (looked for: loops, veiled, ifaces, maps, wideKeys, modest, calm, conditions, laid).
  DERIVED. THE GIVEN ROWS OF THIS SEAT. 10 by the template 'for every input the law returns true; each argument reads behind the call as it read before'; 0 by the template 'total and deterministic' (their statements: YtbfmneblhlmiiaaTotals.lean).
  GIVEN WITH THE SEED: the statements are not yours to turn. If you find one false, say at which input.
  Laid BY PROGRAM, IN A SANDBOX (cutbox-rows.mjs): the forced cells as the released guide's own fill.sh prints them over the translation 81b046e482decf1d… (all of the seat's roots in one cut). By AI agents, Wed Nov 11 2026. No macro, syntax, notation, axiom, sorry.
-/
import Derived.Test.YtbfmneblhlmiiaaChecked
import GoSem.Claim
import GoSem.ClaimJoined
import GoSem.ClaimMapViews
import Derived.JoinedTies
import Derived.KernelRfl
namespace Go.Proofs.Ytbfmneblhlmiiaa
/- THE CELL 'sum', in the pinned program and in every row, IS THE sha256 OF THE DUMP (.gsa) THAT YtbfmneblhlmiiaaProg.lean LOADS. Nothing in Lean hashes anything: it is a label: what it is worth is what the hold of that sum in a sandbox is worth. -/
noncomputable def Try.pinned : Pinned := { name := "ytbfmneblhlmiiaa", sum := "81b046e482decf1d8cd20f6c922d91aaa1c7ee4909026eec500684f5d4842945", checked := Try.checked }
namespace Rows
def none {H : Type} : Left H := { results := [], args := [] }

/-- 'concordatlaw10.SpansOf': WHATEVER THE INPUT: true; the input reads as it did. -/
def spansOfSpec : ChangeSpec := { name := "spansOf", fn := fun _ => fun
  | [d] => { results := [.lit (.bool true)], args := [d] }
  | _ => none }
def spansOfRow : OpenClaim := { program := "ytbfmneblhlmiiaa", sum := "81b046e482decf1d8cd20f6c922d91aaa1c7ee4909026eec500684f5d4842945", func := "concordat/concordatlaw10.SpansOf", spec := "spansOf", apart := false }
def SpansOfSaid : Prop := spansOfRow.holds Try.pinned (OpenSpec.ofChange spansOfSpec)

/-- ITS FALSE NEIGHBOUR: 'it returns false'. Refute it at one input. -/
def spansOfWrong : ChangeSpec := { name := "spansOf", fn := fun _ => fun
  | [d] => { results := [.lit (.bool false)], args := [d] }
  | _ => none }
def SpansOfWrongFalsely : Prop := spansOfRow.holds Try.pinned (OpenSpec.ofChange spansOfWrong)

/-- 'concordatlaw10.SpansMeet': WHATEVER THE INPUT: true; the input reads as it did. -/
def spansMeetSpec : ChangeSpec := { name := "spansMeet", fn := fun _ => fun
  | [d1, d2, d3] => { results := [.lit (.bool true)], args := [d1, d2, d3] }
  | _ => none }
def spansMeetRow : OpenClaim := { program := "ytbfmneblhlmiiaa", sum := "81b046e482decf1d8cd20f6c922d91aaa1c7ee4909026eec500684f5d4842945", func := "concordat/concordatlaw10.SpansMeet", spec := "spansMeet", unfollowed := true, recurses := true, apart := false }
def SpansMeetSaid : Prop := spansMeetRow.holds Try.pinned (OpenSpec.ofChange spansMeetSpec)

/-- ITS FALSE NEIGHBOUR: 'it returns false'. Refute it at one input. -/
def spansMeetWrong : ChangeSpec := { name := "spansMeet", fn := fun _ => fun
  | [d1, d2, d3] => { results := [.lit (.bool false)], args := [d1, d2, d3] }
  | _ => none }
def SpansMeetWrongFalsely : Prop := spansMeetRow.holds Try.pinned (OpenSpec.ofChange spansMeetWrong)

/-- 'concordatlaw10.SpansBoth': WHATEVER THE INPUT: true; the input reads as it did. -/
def spansBothSpec : ChangeSpec := { name := "spansBoth", fn := fun _ => fun
  | [d1, d2, d3] => { results := [.lit (.bool true)], args := [d1, d2, d3] }
  | _ => none }
def spansBothRow : OpenClaim := { program := "ytbfmneblhlmiiaa", sum := "81b046e482decf1d8cd20f6c922d91aaa1c7ee4909026eec500684f5d4842945", func := "concordat/concordatlaw10.SpansBoth", spec := "spansBoth", unfollowed := true, recurses := true, apart := false }
def SpansBothSaid : Prop := spansBothRow.holds Try.pinned (OpenSpec.ofChange spansBothSpec)

/-- ITS FALSE NEIGHBOUR: 'it returns false'. Refute it at one input. -/
def spansBothWrong : ChangeSpec := { name := "spansBoth", fn := fun _ => fun
  | [d1, d2, d3] => { results := [.lit (.bool false)], args := [d1, d2, d3] }
  | _ => none }
def SpansBothWrongFalsely : Prop := spansBothRow.holds Try.pinned (OpenSpec.ofChange spansBothWrong)

/-- 'concordatlaw10.SpansWhole': WHATEVER THE INPUT: true; the input reads as it did. -/
def spansWholeSpec : ChangeSpec := { name := "spansWhole", fn := fun _ => fun
  | [d1, d2] => { results := [.lit (.bool true)], args := [d1, d2] }
  | _ => none }
def spansWholeRow : OpenClaim := { program := "ytbfmneblhlmiiaa", sum := "81b046e482decf1d8cd20f6c922d91aaa1c7ee4909026eec500684f5d4842945", func := "concordat/concordatlaw10.SpansWhole", spec := "spansWhole", unfollowed := true, recurses := true, apart := false }
def SpansWholeSaid : Prop := spansWholeRow.holds Try.pinned (OpenSpec.ofChange spansWholeSpec)

/-- ITS FALSE NEIGHBOUR: 'it returns false'. Refute it at one input. -/
def spansWholeWrong : ChangeSpec := { name := "spansWhole", fn := fun _ => fun
  | [d1, d2] => { results := [.lit (.bool false)], args := [d1, d2] }
  | _ => none }
def SpansWholeWrongFalsely : Prop := spansWholeRow.holds Try.pinned (OpenSpec.ofChange spansWholeWrong)

/-- 'concordatlaw10.SpansTwice': WHATEVER THE INPUT: true; the input reads as it did. -/
def spansTwiceSpec : ChangeSpec := { name := "spansTwice", fn := fun _ => fun
  | [d1, d2] => { results := [.lit (.bool true)], args := [d1, d2] }
  | _ => none }
def spansTwiceRow : OpenClaim := { program := "ytbfmneblhlmiiaa", sum := "81b046e482decf1d8cd20f6c922d91aaa1c7ee4909026eec500684f5d4842945", func := "concordat/concordatlaw10.SpansTwice", spec := "spansTwice", unfollowed := true, recurses := true, apart := false }
def SpansTwiceSaid : Prop := spansTwiceRow.holds Try.pinned (OpenSpec.ofChange spansTwiceSpec)

/-- ITS FALSE NEIGHBOUR: 'it returns false'. Refute it at one input. -/
def spansTwiceWrong : ChangeSpec := { name := "spansTwice", fn := fun _ => fun
  | [d1, d2] => { results := [.lit (.bool false)], args := [d1, d2] }
  | _ => none }
def SpansTwiceWrongFalsely : Prop := spansTwiceRow.holds Try.pinned (OpenSpec.ofChange spansTwiceWrong)

/-- 'concordatlaw10.SpansNone': WHATEVER THE INPUT: true; the input reads as it did. -/
def spansNoneSpec : ChangeSpec := { name := "spansNone", fn := fun _ => fun
  | [d1, d2] => { results := [.lit (.bool true)], args := [d1, d2] }
  | _ => none }
def spansNoneRow : OpenClaim := { program := "ytbfmneblhlmiiaa", sum := "81b046e482decf1d8cd20f6c922d91aaa1c7ee4909026eec500684f5d4842945", func := "concordat/concordatlaw10.SpansNone", spec := "spansNone", unfollowed := true, recurses := true, apart := false }
def SpansNoneSaid : Prop := spansNoneRow.holds Try.pinned (OpenSpec.ofChange spansNoneSpec)

/-- ITS FALSE NEIGHBOUR: 'it returns false'. Refute it at one input. -/
def spansNoneWrong : ChangeSpec := { name := "spansNone", fn := fun _ => fun
  | [d1, d2] => { results := [.lit (.bool false)], args := [d1, d2] }
  | _ => none }
def SpansNoneWrongFalsely : Prop := spansNoneRow.holds Try.pinned (OpenSpec.ofChange spansNoneWrong)

/-- 'concordatlaw10.SpansOps': WHATEVER THE INPUT: true; the input reads as it did. -/
def spansOpsSpec : ChangeSpec := { name := "spansOps", fn := fun _ => fun
  | [d1, d2] => { results := [.lit (.bool true)], args := [d1, d2] }
  | _ => none }
def spansOpsRow : OpenClaim := { program := "ytbfmneblhlmiiaa", sum := "81b046e482decf1d8cd20f6c922d91aaa1c7ee4909026eec500684f5d4842945", func := "concordat/concordatlaw10.SpansOps", spec := "spansOps", unfollowed := true, recurses := true, apart := false }
def SpansOpsSaid : Prop := spansOpsRow.holds Try.pinned (OpenSpec.ofChange spansOpsSpec)

/-- ITS FALSE NEIGHBOUR: 'it returns false'. Refute it at one input. -/
def spansOpsWrong : ChangeSpec := { name := "spansOps", fn := fun _ => fun
  | [d1, d2] => { results := [.lit (.bool false)], args := [d1, d2] }
  | _ => none }
def SpansOpsWrongFalsely : Prop := spansOpsRow.holds Try.pinned (OpenSpec.ofChange spansOpsWrong)

/-- 'concordatlaw10.SpansInside': WHATEVER THE INPUT: true; the input reads as it did. -/
def spansInsideSpec : ChangeSpec := { name := "spansInside", fn := fun _ => fun
  | [d1, d2] => { results := [.lit (.bool true)], args := [d1, d2] }
  | _ => none }
def spansInsideRow : OpenClaim := { program := "ytbfmneblhlmiiaa", sum := "81b046e482decf1d8cd20f6c922d91aaa1c7ee4909026eec500684f5d4842945", func := "concordat/concordatlaw10.SpansInside", spec := "spansInside", unfollowed := true, recurses := true, apart := false }
def SpansInsideSaid : Prop := spansInsideRow.holds Try.pinned (OpenSpec.ofChange spansInsideSpec)

/-- ITS FALSE NEIGHBOUR: 'it returns false'. Refute it at one input. -/
def spansInsideWrong : ChangeSpec := { name := "spansInside", fn := fun _ => fun
  | [d1, d2] => { results := [.lit (.bool false)], args := [d1, d2] }
  | _ => none }
def SpansInsideWrongFalsely : Prop := spansInsideRow.holds Try.pinned (OpenSpec.ofChange spansInsideWrong)

/-- 'concordatlaw10.SpansCut': WHATEVER THE INPUT: true; the input reads as it did. -/
def spansCutSpec : ChangeSpec := { name := "spansCut", fn := fun _ => fun
  | [d1, d2, d3] => { results := [.lit (.bool true)], args := [d1, d2, d3] }
  | _ => none }
def spansCutRow : OpenClaim := { program := "ytbfmneblhlmiiaa", sum := "81b046e482decf1d8cd20f6c922d91aaa1c7ee4909026eec500684f5d4842945", func := "concordat/concordatlaw10.SpansCut", spec := "spansCut", unfollowed := true, recurses := true, apart := false }
def SpansCutSaid : Prop := spansCutRow.holds Try.pinned (OpenSpec.ofChange spansCutSpec)

/-- ITS FALSE NEIGHBOUR: 'it returns false'. Refute it at one input. -/
def spansCutWrong : ChangeSpec := { name := "spansCut", fn := fun _ => fun
  | [d1, d2, d3] => { results := [.lit (.bool false)], args := [d1, d2, d3] }
  | _ => none }
def SpansCutWrongFalsely : Prop := spansCutRow.holds Try.pinned (OpenSpec.ofChange spansCutWrong)

/-- 'concordatlaw10.SpansParts': WHATEVER THE INPUT: true; the input reads as it did. -/
def spansPartsSpec : ChangeSpec := { name := "spansParts", fn := fun _ => fun
  | [d1, d2] => { results := [.lit (.bool true)], args := [d1, d2] }
  | _ => none }
def spansPartsRow : OpenClaim := { program := "ytbfmneblhlmiiaa", sum := "81b046e482decf1d8cd20f6c922d91aaa1c7ee4909026eec500684f5d4842945", func := "concordat/concordatlaw10.SpansParts", spec := "spansParts", unfollowed := true, recurses := true, apart := false }
def SpansPartsSaid : Prop := spansPartsRow.holds Try.pinned (OpenSpec.ofChange spansPartsSpec)

/-- ITS FALSE NEIGHBOUR: 'it returns false'. Refute it at one input. -/
def spansPartsWrong : ChangeSpec := { name := "spansParts", fn := fun _ => fun
  | [d1, d2] => { results := [.lit (.bool false)], args := [d1, d2] }
  | _ => none }
def SpansPartsWrongFalsely : Prop := spansPartsRow.holds Try.pinned (OpenSpec.ofChange spansPartsWrong)

/- THE SECOND FORM. 'bulk': how many values and letters a reading holds, each counted each time it is reached (what is shared counts as often as it is met; a slice's spare places count too). A statement '..UptoSaid' is the law's where the arguments, and the package variables that the reading takes, are together of bulk at most 1048576: NARROWER than '..Said'. Prove '..Said' where nothing that the law and all that it calls make is longer than what came in: it says more and counts as full. Else prove '..UptoSaid'. A law counts once. -/
mutual
def uptoBulk {H : Type} : DataW H → Nat
  | .lit (.string bytes) => bytes.length + 1
  | .lit _ => 1
  | .nil => 1
  | .ptr d => uptoBulk d + 1
  | .slice elems spare => uptoBulkAll elems + uptoBulkAll spare + 1
  | .agg parts => uptoBulkAll parts + 1
  | .iface _ d => uptoBulk d + 1
  | .map entries => uptoBulkEntries entries + 1
  | .held _ => 1
def uptoBulkAll {H : Type} : List (DataW H) → Nat
  | [] => 0
  | d :: r => uptoBulk d + uptoBulkAll r
def uptoBulkEntries {H : Type} : List (Lit × DataW H) → Nat
  | [] => 0
  | x :: r => uptoBulkEntry x + uptoBulkEntries r
def uptoBulkEntry {H : Type} : Lit × DataW H → Nat
  | (.string bytes, d) => bytes.length + uptoBulk d + 1
  | (_, d) => uptoBulk d + 1
 end
def uptoSmall : (H : Type) → List (DataW H) → Bool := fun _ ds => decide (uptoBulkAll ds ≤ 1048576)
def OpenSpec.upto (s : _root_.Go.ChangeSpec) : _root_.Go.OpenSpec := { _root_.Go.OpenSpec.ofChange s with cond := some uptoSmall }

/-- 'concordatlaw10.SpansOf', WHERE WHAT IT READS IS OF BULK AT MOST 1048576: true; the input reads as it did. -/
def spansOfUptoRow : OpenClaim := { program := "ytbfmneblhlmiiaa", sum := "81b046e482decf1d8cd20f6c922d91aaa1c7ee4909026eec500684f5d4842945", func := "concordat/concordatlaw10.SpansOf", spec := "spansOf", apart := false, narrowed := true }
def SpansOfUptoSaid : Prop := spansOfUptoRow.holds Try.pinned (OpenSpec.upto spansOfSpec)

/-- 'concordatlaw10.SpansMeet', WHERE WHAT IT READS IS OF BULK AT MOST 1048576: true; the input reads as it did. -/
def spansMeetUptoRow : OpenClaim := { program := "ytbfmneblhlmiiaa", sum := "81b046e482decf1d8cd20f6c922d91aaa1c7ee4909026eec500684f5d4842945", func := "concordat/concordatlaw10.SpansMeet", spec := "spansMeet", unfollowed := true, recurses := true, apart := false, narrowed := true }
def SpansMeetUptoSaid : Prop := spansMeetUptoRow.holds Try.pinned (OpenSpec.upto spansMeetSpec)

/-- 'concordatlaw10.SpansBoth', WHERE WHAT IT READS IS OF BULK AT MOST 1048576: true; the input reads as it did. -/
def spansBothUptoRow : OpenClaim := { program := "ytbfmneblhlmiiaa", sum := "81b046e482decf1d8cd20f6c922d91aaa1c7ee4909026eec500684f5d4842945", func := "concordat/concordatlaw10.SpansBoth", spec := "spansBoth", unfollowed := true, recurses := true, apart := false, narrowed := true }
def SpansBothUptoSaid : Prop := spansBothUptoRow.holds Try.pinned (OpenSpec.upto spansBothSpec)

/-- 'concordatlaw10.SpansWhole', WHERE WHAT IT READS IS OF BULK AT MOST 1048576: true; the input reads as it did. -/
def spansWholeUptoRow : OpenClaim := { program := "ytbfmneblhlmiiaa", sum := "81b046e482decf1d8cd20f6c922d91aaa1c7ee4909026eec500684f5d4842945", func := "concordat/concordatlaw10.SpansWhole", spec := "spansWhole", unfollowed := true, recurses := true, apart := false, narrowed := true }
def SpansWholeUptoSaid : Prop := spansWholeUptoRow.holds Try.pinned (OpenSpec.upto spansWholeSpec)

/-- 'concordatlaw10.SpansTwice', WHERE WHAT IT READS IS OF BULK AT MOST 1048576: true; the input reads as it did. -/
def spansTwiceUptoRow : OpenClaim := { program := "ytbfmneblhlmiiaa", sum := "81b046e482decf1d8cd20f6c922d91aaa1c7ee4909026eec500684f5d4842945", func := "concordat/concordatlaw10.SpansTwice", spec := "spansTwice", unfollowed := true, recurses := true, apart := false, narrowed := true }
def SpansTwiceUptoSaid : Prop := spansTwiceUptoRow.holds Try.pinned (OpenSpec.upto spansTwiceSpec)

/-- 'concordatlaw10.SpansNone', WHERE WHAT IT READS IS OF BULK AT MOST 1048576: true; the input reads as it did. -/
def spansNoneUptoRow : OpenClaim := { program := "ytbfmneblhlmiiaa", sum := "81b046e482decf1d8cd20f6c922d91aaa1c7ee4909026eec500684f5d4842945", func := "concordat/concordatlaw10.SpansNone", spec := "spansNone", unfollowed := true, recurses := true, apart := false, narrowed := true }
def SpansNoneUptoSaid : Prop := spansNoneUptoRow.holds Try.pinned (OpenSpec.upto spansNoneSpec)

/-- 'concordatlaw10.SpansOps', WHERE WHAT IT READS IS OF BULK AT MOST 1048576: true; the input reads as it did. -/
def spansOpsUptoRow : OpenClaim := { program := "ytbfmneblhlmiiaa", sum := "81b046e482decf1d8cd20f6c922d91aaa1c7ee4909026eec500684f5d4842945", func := "concordat/concordatlaw10.SpansOps", spec := "spansOps", unfollowed := true, recurses := true, apart := false, narrowed := true }
def SpansOpsUptoSaid : Prop := spansOpsUptoRow.holds Try.pinned (OpenSpec.upto spansOpsSpec)

/-- 'concordatlaw10.SpansInside', WHERE WHAT IT READS IS OF BULK AT MOST 1048576: true; the input reads as it did. -/
def spansInsideUptoRow : OpenClaim := { program := "ytbfmneblhlmiiaa", sum := "81b046e482decf1d8cd20f6c922d91aaa1c7ee4909026eec500684f5d4842945", func := "concordat/concordatlaw10.SpansInside", spec := "spansInside", unfollowed := true, recurses := true, apart := false, narrowed := true }
def SpansInsideUptoSaid : Prop := spansInsideUptoRow.holds Try.pinned (OpenSpec.upto spansInsideSpec)

/-- 'concordatlaw10.SpansCut', WHERE WHAT IT READS IS OF BULK AT MOST 1048576: true; the input reads as it did. -/
def spansCutUptoRow : OpenClaim := { program := "ytbfmneblhlmiiaa", sum := "81b046e482decf1d8cd20f6c922d91aaa1c7ee4909026eec500684f5d4842945", func := "concordat/concordatlaw10.SpansCut", spec := "spansCut", unfollowed := true, recurses := true, apart := false, narrowed := true }
def SpansCutUptoSaid : Prop := spansCutUptoRow.holds Try.pinned (OpenSpec.upto spansCutSpec)

/-- 'concordatlaw10.SpansParts', WHERE WHAT IT READS IS OF BULK AT MOST 1048576: true; the input reads as it did. -/
def spansPartsUptoRow : OpenClaim := { program := "ytbfmneblhlmiiaa", sum := "81b046e482decf1d8cd20f6c922d91aaa1c7ee4909026eec500684f5d4842945", func := "concordat/concordatlaw10.SpansParts", spec := "spansParts", unfollowed := true, recurses := true, apart := false, narrowed := true }
def SpansPartsUptoSaid : Prop := spansPartsUptoRow.holds Try.pinned (OpenSpec.upto spansPartsSpec)

end Rows
end Go.Proofs.Ytbfmneblhlmiiaa
