/-
  No cell of these rows narrows 'for every input' (looked for: loops, veiled, ifaces, maps, wideKeys, modest, calm, conditions, laid).
  DERIVED. THE GIVEN ROWS OF THIS SEAT. 4 by the template 'for every input the law returns true; each argument reads behind the call as it read before'; 0 by the template 'total and deterministic' (their statements: YtimadkbdkdeepaaTotals.lean).
  GIVEN WITH THE SEED: the statements are not yours to turn. If you find one false, say at which input.
  Laid BY PROGRAM, IN A SANDBOX (cutbox-rows.mjs): the forced cells as the released guide's own fill.sh prints them over the translation 7c11fa58713e443d… (all of the seat's roots in one cut). By AI agents, Wed Nov 11 2026. No macro, syntax, notation, axiom, sorry.
-/
import Derived.Test.YtimadkbdkdeepaaChecked
import GoSem.Claim
import GoSem.ClaimJoined
import GoSem.ClaimMapViews
import Derived.JoinedTies
import Derived.KernelRfl
namespace Go.Proofs.Ytimadkbdkdeepaa
/- THE CELL 'sum', in the pinned program and in every row, IS THE sha256 OF THE DUMP (.gsa) THAT YtimadkbdkdeepaaProg.lean LOADS. Nothing in Lean hashes anything: it is a label: what it is worth is what the hold of that sum in a sandbox is worth. -/
noncomputable def Try.pinned : Pinned := { name := "ytimadkbdkdeepaa", sum := "7c11fa58713e443d820e6ef7bbf60cf0dc2a4acfb1822a1a0f0e1de31a6ce822", checked := Try.checked }
namespace Rows
def none {H : Type} : Left H := { results := [], args := [] }

/-- 'concordatlaw14.VersionsOne': WHATEVER THE INPUT: true; the input reads as it did. -/
def versionsOneSpec : ChangeSpec := { name := "versionsOne", fn := fun _ => fun
  | [d] => { results := [.lit (.bool true)], args := [d] }
  | _ => none }
def versionsOneRow : OpenClaim := { program := "ytimadkbdkdeepaa", sum := "7c11fa58713e443d820e6ef7bbf60cf0dc2a4acfb1822a1a0f0e1de31a6ce822", func := "concordat/concordatlaw14.VersionsOne", spec := "versionsOne", inPlace := ["slices.overlaps[concordat/api.Row]"], unfollowed := true, recurses := true, apart := false }
def VersionsOneSaid : Prop := versionsOneRow.holds Try.pinned (OpenSpec.ofChange versionsOneSpec)

/-- ITS FALSE NEIGHBOUR: 'it returns false'. Refute it at one input. -/
def versionsOneWrong : ChangeSpec := { name := "versionsOne", fn := fun _ => fun
  | [d] => { results := [.lit (.bool false)], args := [d] }
  | _ => none }
def VersionsOneWrongFalsely : Prop := versionsOneRow.holds Try.pinned (OpenSpec.ofChange versionsOneWrong)

/-- 'concordatlaw14.VersionsSince': WHATEVER THE INPUT: true; the input reads as it did. -/
def versionsSinceSpec : ChangeSpec := { name := "versionsSince", fn := fun _ => fun
  | [d] => { results := [.lit (.bool true)], args := [d] }
  | _ => none }
def versionsSinceRow : OpenClaim := { program := "ytimadkbdkdeepaa", sum := "7c11fa58713e443d820e6ef7bbf60cf0dc2a4acfb1822a1a0f0e1de31a6ce822", func := "concordat/concordatlaw14.VersionsSince", spec := "versionsSince", inPlace := ["slices.overlaps[concordat/api.Row]"], unfollowed := true, recurses := true, apart := false }
def VersionsSinceSaid : Prop := versionsSinceRow.holds Try.pinned (OpenSpec.ofChange versionsSinceSpec)

/-- ITS FALSE NEIGHBOUR: 'it returns false'. Refute it at one input. -/
def versionsSinceWrong : ChangeSpec := { name := "versionsSince", fn := fun _ => fun
  | [d] => { results := [.lit (.bool false)], args := [d] }
  | _ => none }
def VersionsSinceWrongFalsely : Prop := versionsSinceRow.holds Try.pinned (OpenSpec.ofChange versionsSinceWrong)

/-- 'concordatlaw14.VersionsTrimmed': WHATEVER THE INPUT: true; the input reads as it did. -/
def versionsTrimmedSpec : ChangeSpec := { name := "versionsTrimmed", fn := fun _ => fun
  | [d1, d2, d3] => { results := [.lit (.bool true)], args := [d1, d2, d3] }
  | _ => none }
def versionsTrimmedRow : OpenClaim := { program := "ytimadkbdkdeepaa", sum := "7c11fa58713e443d820e6ef7bbf60cf0dc2a4acfb1822a1a0f0e1de31a6ce822", func := "concordat/concordatlaw14.VersionsTrimmed", spec := "versionsTrimmed", inPlace := ["slices.overlaps[concordat/api.Row]"], unfollowed := true, recurses := true, apart := false }
def VersionsTrimmedSaid : Prop := versionsTrimmedRow.holds Try.pinned (OpenSpec.ofChange versionsTrimmedSpec)

/-- ITS FALSE NEIGHBOUR: 'it returns false'. Refute it at one input. -/
def versionsTrimmedWrong : ChangeSpec := { name := "versionsTrimmed", fn := fun _ => fun
  | [d1, d2, d3] => { results := [.lit (.bool false)], args := [d1, d2, d3] }
  | _ => none }
def VersionsTrimmedWrongFalsely : Prop := versionsTrimmedRow.holds Try.pinned (OpenSpec.ofChange versionsTrimmedWrong)

/-- 'concordatlaw14.VersionsChanges': WHATEVER THE INPUT: true; the input reads as it did. -/
def versionsChangesSpec : ChangeSpec := { name := "versionsChanges", fn := fun _ => fun
  | [d1, d2] => { results := [.lit (.bool true)], args := [d1, d2] }
  | _ => none }
def versionsChangesRow : OpenClaim := { program := "ytimadkbdkdeepaa", sum := "7c11fa58713e443d820e6ef7bbf60cf0dc2a4acfb1822a1a0f0e1de31a6ce822", func := "concordat/concordatlaw14.VersionsChanges", spec := "versionsChanges", inPlace := ["slices.overlaps[concordat/api.Row]"], unfollowed := true, recurses := true, apart := false }
def VersionsChangesSaid : Prop := versionsChangesRow.holds Try.pinned (OpenSpec.ofChange versionsChangesSpec)

/-- ITS FALSE NEIGHBOUR: 'it returns false'. Refute it at one input. -/
def versionsChangesWrong : ChangeSpec := { name := "versionsChanges", fn := fun _ => fun
  | [d1, d2] => { results := [.lit (.bool false)], args := [d1, d2] }
  | _ => none }
def VersionsChangesWrongFalsely : Prop := versionsChangesRow.holds Try.pinned (OpenSpec.ofChange versionsChangesWrong)

/- THE SECOND FORM. 'bulk': how many values and letters a reading holds, each counted each time it is reached (what is shared counts as often as it is met; a slice's spare places count too). A statement '..UptoSaid' is the law's where the arguments, and the package variables that the reading takes, are together of bulk at most 1048576: NARROWER than '..Said'. Prove '..Said' where nothing that the law and all that it calls make is longer than what came in: it says more and counts as full. Else prove '..UptoSaid'. A law counts once. -/
mutual
def uptoBulk {H : Type} : DataW H → Nat
  | .lit (.string bytes) => bytes.length + 1
  | .lit _ => 1
  | .nil => 1
  | .ptr d => uptoBulk d + 1
  | .slice elems spare => uptoBulkAll elems + uptoBulkAll spare + 1
  | .agg parts => uptoBulkAll parts + 1
  | .iface _ d => uptoBulk d + 1
  | .map entries => uptoBulkEntries entries + 1
  | .held _ => 1
def uptoBulkAll {H : Type} : List (DataW H) → Nat
  | [] => 0
  | d :: r => uptoBulk d + uptoBulkAll r
def uptoBulkEntries {H : Type} : List (Lit × DataW H) → Nat
  | [] => 0
  | x :: r => uptoBulkEntry x + uptoBulkEntries r
def uptoBulkEntry {H : Type} : Lit × DataW H → Nat
  | (.string bytes, d) => bytes.length + uptoBulk d + 1
  | (_, d) => uptoBulk d + 1
 end
def uptoSmall : (H : Type) → List (DataW H) → Bool := fun _ ds => decide (uptoBulkAll ds ≤ 1048576)
def OpenSpec.upto (s : _root_.Go.ChangeSpec) : _root_.Go.OpenSpec := { _root_.Go.OpenSpec.ofChange s with cond := some uptoSmall }

/-- 'concordatlaw14.VersionsOne', WHERE WHAT IT READS IS OF BULK AT MOST 1048576: true; the input reads as it did. -/
def versionsOneUptoRow : OpenClaim := { program := "ytimadkbdkdeepaa", sum := "7c11fa58713e443d820e6ef7bbf60cf0dc2a4acfb1822a1a0f0e1de31a6ce822", func := "concordat/concordatlaw14.VersionsOne", spec := "versionsOne", inPlace := ["slices.overlaps[concordat/api.Row]"], unfollowed := true, recurses := true, apart := false, narrowed := true }
def VersionsOneUptoSaid : Prop := versionsOneUptoRow.holds Try.pinned (OpenSpec.upto versionsOneSpec)

/-- 'concordatlaw14.VersionsSince', WHERE WHAT IT READS IS OF BULK AT MOST 1048576: true; the input reads as it did. -/
def versionsSinceUptoRow : OpenClaim := { program := "ytimadkbdkdeepaa", sum := "7c11fa58713e443d820e6ef7bbf60cf0dc2a4acfb1822a1a0f0e1de31a6ce822", func := "concordat/concordatlaw14.VersionsSince", spec := "versionsSince", inPlace := ["slices.overlaps[concordat/api.Row]"], unfollowed := true, recurses := true, apart := false, narrowed := true }
def VersionsSinceUptoSaid : Prop := versionsSinceUptoRow.holds Try.pinned (OpenSpec.upto versionsSinceSpec)

/-- 'concordatlaw14.VersionsTrimmed', WHERE WHAT IT READS IS OF BULK AT MOST 1048576: true; the input reads as it did. -/
def versionsTrimmedUptoRow : OpenClaim := { program := "ytimadkbdkdeepaa", sum := "7c11fa58713e443d820e6ef7bbf60cf0dc2a4acfb1822a1a0f0e1de31a6ce822", func := "concordat/concordatlaw14.VersionsTrimmed", spec := "versionsTrimmed", inPlace := ["slices.overlaps[concordat/api.Row]"], unfollowed := true, recurses := true, apart := false, narrowed := true }
def VersionsTrimmedUptoSaid : Prop := versionsTrimmedUptoRow.holds Try.pinned (OpenSpec.upto versionsTrimmedSpec)

/-- 'concordatlaw14.VersionsChanges', WHERE WHAT IT READS IS OF BULK AT MOST 1048576: true; the input reads as it did. -/
def versionsChangesUptoRow : OpenClaim := { program := "ytimadkbdkdeepaa", sum := "7c11fa58713e443d820e6ef7bbf60cf0dc2a4acfb1822a1a0f0e1de31a6ce822", func := "concordat/concordatlaw14.VersionsChanges", spec := "versionsChanges", inPlace := ["slices.overlaps[concordat/api.Row]"], unfollowed := true, recurses := true, apart := false, narrowed := true }
def VersionsChangesUptoSaid : Prop := versionsChangesUptoRow.holds Try.pinned (OpenSpec.upto versionsChangesSpec)

end Rows
end Go.Proofs.Ytimadkbdkdeepaa
