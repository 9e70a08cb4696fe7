/-
  No cell of these rows narrows 'for every input' (looked for: loops, veiled, ifaces, maps, wideKeys, modest, calm, conditions, laid).
  DERIVED. THE GIVEN ROWS OF THIS SEAT. 10 by the template 'for every input the law returns true; each argument reads behind the call as it read before'; 0 by the template 'total and deterministic' (their statements: YtdegcencbbbghaaTotals.lean).
  GIVEN WITH THE SEED: the statements are not yours to turn. If you find one false, say at which input.
  Laid BY PROGRAM, IN A SANDBOX (cutbox-rows.mjs): the forced cells as the released guide's own fill.sh prints them over the translation 4d090812818d60e0… (all of the seat's roots in one cut). By AI agents, Wed Nov 11 2026. No macro, syntax, notation, axiom, sorry.
-/
import Derived.Test.YtdegcencbbbghaaChecked
import GoSem.Claim
import GoSem.ClaimJoined
import GoSem.ClaimMapViews
import Derived.JoinedTies
import Derived.KernelRfl
namespace Go.Proofs.Ytdegcencbbbghaa
/- THE CELL 'sum', in the pinned program and in every row, IS THE sha256 OF THE DUMP (.gsa) THAT YtdegcencbbbghaaProg.lean LOADS. Nothing in Lean hashes anything: it is a label: what it is worth is what the hold of that sum in a sandbox is worth. -/
noncomputable def Try.pinned : Pinned := { name := "ytdegcencbbbghaa", sum := "4d090812818d60e0e5ef207917bc20fca47bb453a36650f831a0d254c21841f5", checked := Try.checked }
namespace Rows
def none {H : Type} : Left H := { results := [], args := [] }

/-- 'concordatlaw13.StoresLast': WHATEVER THE INPUT: true; the input reads as it did. -/
def storesLastSpec : ChangeSpec := { name := "storesLast", fn := fun _ => fun
  | [d1, d2] => { results := [.lit (.bool true)], args := [d1, d2] }
  | _ => none }
def storesLastRow : OpenClaim := { program := "ytdegcencbbbghaa", sum := "4d090812818d60e0e5ef207917bc20fca47bb453a36650f831a0d254c21841f5", func := "concordat/concordatlaw13.StoresLast", spec := "storesLast", inPlace := ["slices.overlaps[concordat/api.Row]"], unfollowed := true, recurses := true, apart := false }
def StoresLastSaid : Prop := storesLastRow.holds Try.pinned (OpenSpec.ofChange storesLastSpec)

/-- ITS FALSE NEIGHBOUR: 'it returns false'. Refute it at one input. -/
def storesLastWrong : ChangeSpec := { name := "storesLast", fn := fun _ => fun
  | [d1, d2] => { results := [.lit (.bool false)], args := [d1, d2] }
  | _ => none }
def StoresLastWrongFalsely : Prop := storesLastRow.holds Try.pinned (OpenSpec.ofChange storesLastWrong)

/-- 'concordatlaw13.StoresScan': WHATEVER THE INPUT: true; the input reads as it did. -/
def storesScanSpec : ChangeSpec := { name := "storesScan", fn := fun _ => fun
  | [d1, d2, d3] => { results := [.lit (.bool true)], args := [d1, d2, d3] }
  | _ => none }
def storesScanRow : OpenClaim := { program := "ytdegcencbbbghaa", sum := "4d090812818d60e0e5ef207917bc20fca47bb453a36650f831a0d254c21841f5", func := "concordat/concordatlaw13.StoresScan", spec := "storesScan", inPlace := ["slices.overlaps[concordat/api.Row]"], unfollowed := true, recurses := true, apart := false }
def StoresScanSaid : Prop := storesScanRow.holds Try.pinned (OpenSpec.ofChange storesScanSpec)

/-- ITS FALSE NEIGHBOUR: 'it returns false'. Refute it at one input. -/
def storesScanWrong : ChangeSpec := { name := "storesScan", fn := fun _ => fun
  | [d1, d2, d3] => { results := [.lit (.bool false)], args := [d1, d2, d3] }
  | _ => none }
def StoresScanWrongFalsely : Prop := storesScanRow.holds Try.pinned (OpenSpec.ofChange storesScanWrong)

/-- 'concordatlaw13.StoresChange': WHATEVER THE INPUT: true; the input reads as it did. -/
def storesChangeSpec : ChangeSpec := { name := "storesChange", fn := fun _ => fun
  | [d1, d2] => { results := [.lit (.bool true)], args := [d1, d2] }
  | _ => none }
def storesChangeRow : OpenClaim := { program := "ytdegcencbbbghaa", sum := "4d090812818d60e0e5ef207917bc20fca47bb453a36650f831a0d254c21841f5", func := "concordat/concordatlaw13.StoresChange", spec := "storesChange", inPlace := ["slices.overlaps[concordat/api.Row]"], unfollowed := true, recurses := true, apart := false }
def StoresChangeSaid : Prop := storesChangeRow.holds Try.pinned (OpenSpec.ofChange storesChangeSpec)

/-- ITS FALSE NEIGHBOUR: 'it returns false'. Refute it at one input. -/
def storesChangeWrong : ChangeSpec := { name := "storesChange", fn := fun _ => fun
  | [d1, d2] => { results := [.lit (.bool false)], args := [d1, d2] }
  | _ => none }
def StoresChangeWrongFalsely : Prop := storesChangeRow.holds Try.pinned (OpenSpec.ofChange storesChangeWrong)

/-- 'concordatlaw13.StoresGone': WHATEVER THE INPUT: true; the input reads as it did. -/
def storesGoneSpec : ChangeSpec := { name := "storesGone", fn := fun _ => fun
  | [d1, d2] => { results := [.lit (.bool true)], args := [d1, d2] }
  | _ => none }
def storesGoneRow : OpenClaim := { program := "ytdegcencbbbghaa", sum := "4d090812818d60e0e5ef207917bc20fca47bb453a36650f831a0d254c21841f5", func := "concordat/concordatlaw13.StoresGone", spec := "storesGone", inPlace := ["slices.overlaps[concordat/api.Row]"], unfollowed := true, recurses := true, apart := false }
def StoresGoneSaid : Prop := storesGoneRow.holds Try.pinned (OpenSpec.ofChange storesGoneSpec)

/-- ITS FALSE NEIGHBOUR: 'it returns false'. Refute it at one input. -/
def storesGoneWrong : ChangeSpec := { name := "storesGone", fn := fun _ => fun
  | [d1, d2] => { results := [.lit (.bool false)], args := [d1, d2] }
  | _ => none }
def StoresGoneWrongFalsely : Prop := storesGoneRow.holds Try.pinned (OpenSpec.ofChange storesGoneWrong)

/-- 'concordatlaw13.StoresOrder': WHATEVER THE INPUT: true; the input reads as it did. -/
def storesOrderSpec : ChangeSpec := { name := "storesOrder", fn := fun _ => fun
  | [d1, d2] => { results := [.lit (.bool true)], args := [d1, d2] }
  | _ => none }
def storesOrderRow : OpenClaim := { program := "ytdegcencbbbghaa", sum := "4d090812818d60e0e5ef207917bc20fca47bb453a36650f831a0d254c21841f5", func := "concordat/concordatlaw13.StoresOrder", spec := "storesOrder", inPlace := ["slices.overlaps[concordat/api.Row]"], unfollowed := true, recurses := true, apart := false }
def StoresOrderSaid : Prop := storesOrderRow.holds Try.pinned (OpenSpec.ofChange storesOrderSpec)

/-- ITS FALSE NEIGHBOUR: 'it returns false'. Refute it at one input. -/
def storesOrderWrong : ChangeSpec := { name := "storesOrder", fn := fun _ => fun
  | [d1, d2] => { results := [.lit (.bool false)], args := [d1, d2] }
  | _ => none }
def StoresOrderWrongFalsely : Prop := storesOrderRow.holds Try.pinned (OpenSpec.ofChange storesOrderWrong)

/-- 'concordatlaw13.StoresParts': WHATEVER THE INPUT: true; the input reads as it did. -/
def storesPartsSpec : ChangeSpec := { name := "storesParts", fn := fun _ => fun
  | [d1, d2, d3] => { results := [.lit (.bool true)], args := [d1, d2, d3] }
  | _ => none }
def storesPartsRow : OpenClaim := { program := "ytdegcencbbbghaa", sum := "4d090812818d60e0e5ef207917bc20fca47bb453a36650f831a0d254c21841f5", func := "concordat/concordatlaw13.StoresParts", spec := "storesParts", inPlace := ["slices.overlaps[concordat/api.Row]"], unfollowed := true, recurses := true, apart := false }
def StoresPartsSaid : Prop := storesPartsRow.holds Try.pinned (OpenSpec.ofChange storesPartsSpec)

/-- ITS FALSE NEIGHBOUR: 'it returns false'. Refute it at one input. -/
def storesPartsWrong : ChangeSpec := { name := "storesParts", fn := fun _ => fun
  | [d1, d2, d3] => { results := [.lit (.bool false)], args := [d1, d2, d3] }
  | _ => none }
def StoresPartsWrongFalsely : Prop := storesPartsRow.holds Try.pinned (OpenSpec.ofChange storesPartsWrong)

/-- 'concordatlaw13.StoresTwice': WHATEVER THE INPUT: true; the input reads as it did. -/
def storesTwiceSpec : ChangeSpec := { name := "storesTwice", fn := fun _ => fun
  | [d1, d2] => { results := [.lit (.bool true)], args := [d1, d2] }
  | _ => none }
def storesTwiceRow : OpenClaim := { program := "ytdegcencbbbghaa", sum := "4d090812818d60e0e5ef207917bc20fca47bb453a36650f831a0d254c21841f5", func := "concordat/concordatlaw13.StoresTwice", spec := "storesTwice", inPlace := ["slices.overlaps[concordat/api.Row]"], unfollowed := true, recurses := true, apart := false }
def StoresTwiceSaid : Prop := storesTwiceRow.holds Try.pinned (OpenSpec.ofChange storesTwiceSpec)

/-- ITS FALSE NEIGHBOUR: 'it returns false'. Refute it at one input. -/
def storesTwiceWrong : ChangeSpec := { name := "storesTwice", fn := fun _ => fun
  | [d1, d2] => { results := [.lit (.bool false)], args := [d1, d2] }
  | _ => none }
def StoresTwiceWrongFalsely : Prop := storesTwiceRow.holds Try.pinned (OpenSpec.ofChange storesTwiceWrong)

/-- 'concordatlaw13.StoresUndo': WHATEVER THE INPUT: true; the input reads as it did. -/
def storesUndoSpec : ChangeSpec := { name := "storesUndo", fn := fun _ => fun
  | [d1, d2] => { results := [.lit (.bool true)], args := [d1, d2] }
  | _ => none }
def storesUndoRow : OpenClaim := { program := "ytdegcencbbbghaa", sum := "4d090812818d60e0e5ef207917bc20fca47bb453a36650f831a0d254c21841f5", func := "concordat/concordatlaw13.StoresUndo", spec := "storesUndo", inPlace := ["slices.overlaps[concordat/api.Row]"], unfollowed := true, recurses := true, apart := false }
def StoresUndoSaid : Prop := storesUndoRow.holds Try.pinned (OpenSpec.ofChange storesUndoSpec)

/-- ITS FALSE NEIGHBOUR: 'it returns false'. Refute it at one input. -/
def storesUndoWrong : ChangeSpec := { name := "storesUndo", fn := fun _ => fun
  | [d1, d2] => { results := [.lit (.bool false)], args := [d1, d2] }
  | _ => none }
def StoresUndoWrongFalsely : Prop := storesUndoRow.holds Try.pinned (OpenSpec.ofChange storesUndoWrong)

/-- 'concordatlaw13.StoresNone': WHATEVER THE INPUT: true; the input reads as it did. -/
def storesNoneSpec : ChangeSpec := { name := "storesNone", fn := fun _ => fun
  | [d1, d2, d3] => { results := [.lit (.bool true)], args := [d1, d2, d3] }
  | _ => none }
def storesNoneRow : OpenClaim := { program := "ytdegcencbbbghaa", sum := "4d090812818d60e0e5ef207917bc20fca47bb453a36650f831a0d254c21841f5", func := "concordat/concordatlaw13.StoresNone", spec := "storesNone", inPlace := ["slices.overlaps[concordat/api.Row]"], unfollowed := true, recurses := true, apart := false }
def StoresNoneSaid : Prop := storesNoneRow.holds Try.pinned (OpenSpec.ofChange storesNoneSpec)

/-- ITS FALSE NEIGHBOUR: 'it returns false'. Refute it at one input. -/
def storesNoneWrong : ChangeSpec := { name := "storesNone", fn := fun _ => fun
  | [d1, d2, d3] => { results := [.lit (.bool false)], args := [d1, d2, d3] }
  | _ => none }
def StoresNoneWrongFalsely : Prop := storesNoneRow.holds Try.pinned (OpenSpec.ofChange storesNoneWrong)

/-- 'concordatlaw13.StoresTwin': WHATEVER THE INPUT: true; the input reads as it did. -/
def storesTwinSpec : ChangeSpec := { name := "storesTwin", fn := fun _ => fun
  | [d1, d2] => { results := [.lit (.bool true)], args := [d1, d2] }
  | _ => none }
def storesTwinRow : OpenClaim := { program := "ytdegcencbbbghaa", sum := "4d090812818d60e0e5ef207917bc20fca47bb453a36650f831a0d254c21841f5", func := "concordat/concordatlaw13.StoresTwin", spec := "storesTwin", inPlace := ["slices.overlaps[concordat/api.Row]"], unfollowed := true, recurses := true, apart := false }
def StoresTwinSaid : Prop := storesTwinRow.holds Try.pinned (OpenSpec.ofChange storesTwinSpec)

/-- ITS FALSE NEIGHBOUR: 'it returns false'. Refute it at one input. -/
def storesTwinWrong : ChangeSpec := { name := "storesTwin", fn := fun _ => fun
  | [d1, d2] => { results := [.lit (.bool false)], args := [d1, d2] }
  | _ => none }
def StoresTwinWrongFalsely : Prop := storesTwinRow.holds Try.pinned (OpenSpec.ofChange storesTwinWrong)

/- THE SECOND FORM. 'bulk': how many values and letters a reading holds, each counted each time it is reached (what is shared counts as often as it is met; a slice's spare places count too). A statement '..UptoSaid' is the law's where the arguments, and the package variables that the reading takes, are together of bulk at most 1048576: NARROWER than '..Said'. Prove '..Said' where nothing that the law and all that it calls make is longer than what came in: it says more and counts as full. Else prove '..UptoSaid'. A law counts once. -/
mutual
def uptoBulk {H : Type} : DataW H → Nat
  | .lit (.string bytes) => bytes.length + 1
  | .lit _ => 1
  | .nil => 1
  | .ptr d => uptoBulk d + 1
  | .slice elems spare => uptoBulkAll elems + uptoBulkAll spare + 1
  | .agg parts => uptoBulkAll parts + 1
  | .iface _ d => uptoBulk d + 1
  | .map entries => uptoBulkEntries entries + 1
  | .held _ => 1
def uptoBulkAll {H : Type} : List (DataW H) → Nat
  | [] => 0
  | d :: r => uptoBulk d + uptoBulkAll r
def uptoBulkEntries {H : Type} : List (Lit × DataW H) → Nat
  | [] => 0
  | x :: r => uptoBulkEntry x + uptoBulkEntries r
def uptoBulkEntry {H : Type} : Lit × DataW H → Nat
  | (.string bytes, d) => bytes.length + uptoBulk d + 1
  | (_, d) => uptoBulk d + 1
 end
def uptoSmall : (H : Type) → List (DataW H) → Bool := fun _ ds => decide (uptoBulkAll ds ≤ 1048576)
def OpenSpec.upto (s : _root_.Go.ChangeSpec) : _root_.Go.OpenSpec := { _root_.Go.OpenSpec.ofChange s with cond := some uptoSmall }

/-- 'concordatlaw13.StoresLast', WHERE WHAT IT READS IS OF BULK AT MOST 1048576: true; the input reads as it did. -/
def storesLastUptoRow : OpenClaim := { program := "ytdegcencbbbghaa", sum := "4d090812818d60e0e5ef207917bc20fca47bb453a36650f831a0d254c21841f5", func := "concordat/concordatlaw13.StoresLast", spec := "storesLast", inPlace := ["slices.overlaps[concordat/api.Row]"], unfollowed := true, recurses := true, apart := false, narrowed := true }
def StoresLastUptoSaid : Prop := storesLastUptoRow.holds Try.pinned (OpenSpec.upto storesLastSpec)

/-- 'concordatlaw13.StoresScan', WHERE WHAT IT READS IS OF BULK AT MOST 1048576: true; the input reads as it did. -/
def storesScanUptoRow : OpenClaim := { program := "ytdegcencbbbghaa", sum := "4d090812818d60e0e5ef207917bc20fca47bb453a36650f831a0d254c21841f5", func := "concordat/concordatlaw13.StoresScan", spec := "storesScan", inPlace := ["slices.overlaps[concordat/api.Row]"], unfollowed := true, recurses := true, apart := false, narrowed := true }
def StoresScanUptoSaid : Prop := storesScanUptoRow.holds Try.pinned (OpenSpec.upto storesScanSpec)

/-- 'concordatlaw13.StoresChange', WHERE WHAT IT READS IS OF BULK AT MOST 1048576: true; the input reads as it did. -/
def storesChangeUptoRow : OpenClaim := { program := "ytdegcencbbbghaa", sum := "4d090812818d60e0e5ef207917bc20fca47bb453a36650f831a0d254c21841f5", func := "concordat/concordatlaw13.StoresChange", spec := "storesChange", inPlace := ["slices.overlaps[concordat/api.Row]"], unfollowed := true, recurses := true, apart := false, narrowed := true }
def StoresChangeUptoSaid : Prop := storesChangeUptoRow.holds Try.pinned (OpenSpec.upto storesChangeSpec)

/-- 'concordatlaw13.StoresGone', WHERE WHAT IT READS IS OF BULK AT MOST 1048576: true; the input reads as it did. -/
def storesGoneUptoRow : OpenClaim := { program := "ytdegcencbbbghaa", sum := "4d090812818d60e0e5ef207917bc20fca47bb453a36650f831a0d254c21841f5", func := "concordat/concordatlaw13.StoresGone", spec := "storesGone", inPlace := ["slices.overlaps[concordat/api.Row]"], unfollowed := true, recurses := true, apart := false, narrowed := true }
def StoresGoneUptoSaid : Prop := storesGoneUptoRow.holds Try.pinned (OpenSpec.upto storesGoneSpec)

/-- 'concordatlaw13.StoresOrder', WHERE WHAT IT READS IS OF BULK AT MOST 1048576: true; the input reads as it did. -/
def storesOrderUptoRow : OpenClaim := { program := "ytdegcencbbbghaa", sum := "4d090812818d60e0e5ef207917bc20fca47bb453a36650f831a0d254c21841f5", func := "concordat/concordatlaw13.StoresOrder", spec := "storesOrder", inPlace := ["slices.overlaps[concordat/api.Row]"], unfollowed := true, recurses := true, apart := false, narrowed := true }
def StoresOrderUptoSaid : Prop := storesOrderUptoRow.holds Try.pinned (OpenSpec.upto storesOrderSpec)

/-- 'concordatlaw13.StoresParts', WHERE WHAT IT READS IS OF BULK AT MOST 1048576: true; the input reads as it did. -/
def storesPartsUptoRow : OpenClaim := { program := "ytdegcencbbbghaa", sum := "4d090812818d60e0e5ef207917bc20fca47bb453a36650f831a0d254c21841f5", func := "concordat/concordatlaw13.StoresParts", spec := "storesParts", inPlace := ["slices.overlaps[concordat/api.Row]"], unfollowed := true, recurses := true, apart := false, narrowed := true }
def StoresPartsUptoSaid : Prop := storesPartsUptoRow.holds Try.pinned (OpenSpec.upto storesPartsSpec)

/-- 'concordatlaw13.StoresTwice', WHERE WHAT IT READS IS OF BULK AT MOST 1048576: true; the input reads as it did. -/
def storesTwiceUptoRow : OpenClaim := { program := "ytdegcencbbbghaa", sum := "4d090812818d60e0e5ef207917bc20fca47bb453a36650f831a0d254c21841f5", func := "concordat/concordatlaw13.StoresTwice", spec := "storesTwice", inPlace := ["slices.overlaps[concordat/api.Row]"], unfollowed := true, recurses := true, apart := false, narrowed := true }
def StoresTwiceUptoSaid : Prop := storesTwiceUptoRow.holds Try.pinned (OpenSpec.upto storesTwiceSpec)

/-- 'concordatlaw13.StoresUndo', WHERE WHAT IT READS IS OF BULK AT MOST 1048576: true; the input reads as it did. -/
def storesUndoUptoRow : OpenClaim := { program := "ytdegcencbbbghaa", sum := "4d090812818d60e0e5ef207917bc20fca47bb453a36650f831a0d254c21841f5", func := "concordat/concordatlaw13.StoresUndo", spec := "storesUndo", inPlace := ["slices.overlaps[concordat/api.Row]"], unfollowed := true, recurses := true, apart := false, narrowed := true }
def StoresUndoUptoSaid : Prop := storesUndoUptoRow.holds Try.pinned (OpenSpec.upto storesUndoSpec)

/-- 'concordatlaw13.StoresNone', WHERE WHAT IT READS IS OF BULK AT MOST 1048576: true; the input reads as it did. -/
def storesNoneUptoRow : OpenClaim := { program := "ytdegcencbbbghaa", sum := "4d090812818d60e0e5ef207917bc20fca47bb453a36650f831a0d254c21841f5", func := "concordat/concordatlaw13.StoresNone", spec := "storesNone", inPlace := ["slices.overlaps[concordat/api.Row]"], unfollowed := true, recurses := true, apart := false, narrowed := true }
def StoresNoneUptoSaid : Prop := storesNoneUptoRow.holds Try.pinned (OpenSpec.upto storesNoneSpec)

/-- 'concordatlaw13.StoresTwin', WHERE WHAT IT READS IS OF BULK AT MOST 1048576: true; the input reads as it did. -/
def storesTwinUptoRow : OpenClaim := { program := "ytdegcencbbbghaa", sum := "4d090812818d60e0e5ef207917bc20fca47bb453a36650f831a0d254c21841f5", func := "concordat/concordatlaw13.StoresTwin", spec := "storesTwin", inPlace := ["slices.overlaps[concordat/api.Row]"], unfollowed := true, recurses := true, apart := false, narrowed := true }
def StoresTwinUptoSaid : Prop := storesTwinUptoRow.holds Try.pinned (OpenSpec.upto storesTwinSpec)

end Rows
end Go.Proofs.Ytdegcencbbbghaa
