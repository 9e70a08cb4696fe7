/-
  No cell of these rows narrows 'for every input' (looked for: loops, veiled, ifaces, maps, wideKeys, modest, calm, conditions, laid).
  DERIVED. THE GIVEN ROWS OF THIS SEAT. 8 by the template 'for every input the law returns true; each argument reads behind the call as it read before'; 0 by the template 'total and deterministic' (their statements: YtomhkflcimbbiaaTotals.lean).
  GIVEN WITH THE SEED: the statements are not yours to turn. If you find one false, say at which input.
  Laid BY PROGRAM, IN A SANDBOX (cutbox-rows.mjs): the forced cells as the released guide's own fill.sh prints them over the translation 156956b716223572… (all of the seat's roots in one cut). By AI agents, Wed Nov 11 2026. No macro, syntax, notation, axiom, sorry.
-/
import Derived.Test.YtomhkflcimbbiaaChecked
import GoSem.Claim
import GoSem.ClaimJoined
import GoSem.ClaimMapViews
import Derived.JoinedTies
import Derived.KernelRfl
namespace Go.Proofs.Ytomhkflcimbbiaa
/- THE CELL 'sum', in the pinned program and in every row, IS THE sha256 OF THE DUMP (.gsa) THAT YtomhkflcimbbiaaProg.lean LOADS. Nothing in Lean hashes anything: it is a label: what it is worth is what the hold of that sum in a sandbox is worth. -/
noncomputable def Try.pinned : Pinned := { name := "ytomhkflcimbbiaa", sum := "156956b716223572034ba43cc75452805c34fc437e5542b41bfcf445718d2558", checked := Try.checked }
namespace Rows
def none {H : Type} : Left H := { results := [], args := [] }

/-- 'concordatlaw11.LocksNone': WHATEVER THE INPUT: true; the input reads as it did. -/
def locksNoneSpec : ChangeSpec := { name := "locksNone", fn := fun _ => fun
  | [d1, d2, d3] => { results := [.lit (.bool true)], args := [d1, d2, d3] }
  | _ => none }
def locksNoneRow : OpenClaim := { program := "ytomhkflcimbbiaa", sum := "156956b716223572034ba43cc75452805c34fc437e5542b41bfcf445718d2558", func := "concordat/concordatlaw11.LocksNone", spec := "locksNone", unfollowed := true, recurses := true, apart := false }
def LocksNoneSaid : Prop := locksNoneRow.holds Try.pinned (OpenSpec.ofChange locksNoneSpec)

/-- ITS FALSE NEIGHBOUR: 'it returns false'. Refute it at one input. -/
def locksNoneWrong : ChangeSpec := { name := "locksNone", fn := fun _ => fun
  | [d1, d2, d3] => { results := [.lit (.bool false)], args := [d1, d2, d3] }
  | _ => none }
def LocksNoneWrongFalsely : Prop := locksNoneRow.holds Try.pinned (OpenSpec.ofChange locksNoneWrong)

/-- 'concordatlaw11.LocksApart': WHATEVER THE INPUT: true; the input reads as it did. -/
def locksApartSpec : ChangeSpec := { name := "locksApart", fn := fun _ => fun
  | [d] => { results := [.lit (.bool true)], args := [d] }
  | _ => none }
def locksApartRow : OpenClaim := { program := "ytomhkflcimbbiaa", sum := "156956b716223572034ba43cc75452805c34fc437e5542b41bfcf445718d2558", func := "concordat/concordatlaw11.LocksApart", spec := "locksApart", unfollowed := true, recurses := true, apart := false }
def LocksApartSaid : Prop := locksApartRow.holds Try.pinned (OpenSpec.ofChange locksApartSpec)

/-- ITS FALSE NEIGHBOUR: 'it returns false'. Refute it at one input. -/
def locksApartWrong : ChangeSpec := { name := "locksApart", fn := fun _ => fun
  | [d] => { results := [.lit (.bool false)], args := [d] }
  | _ => none }
def LocksApartWrongFalsely : Prop := locksApartRow.holds Try.pinned (OpenSpec.ofChange locksApartWrong)

/-- 'concordatlaw11.LocksFree': WHATEVER THE INPUT: true; the input reads as it did. -/
def locksFreeSpec : ChangeSpec := { name := "locksFree", fn := fun _ => fun
  | [d1, d2] => { results := [.lit (.bool true)], args := [d1, d2] }
  | _ => none }
def locksFreeRow : OpenClaim := { program := "ytomhkflcimbbiaa", sum := "156956b716223572034ba43cc75452805c34fc437e5542b41bfcf445718d2558", func := "concordat/concordatlaw11.LocksFree", spec := "locksFree", unfollowed := true, recurses := true, apart := false }
def LocksFreeSaid : Prop := locksFreeRow.holds Try.pinned (OpenSpec.ofChange locksFreeSpec)

/-- ITS FALSE NEIGHBOUR: 'it returns false'. Refute it at one input. -/
def locksFreeWrong : ChangeSpec := { name := "locksFree", fn := fun _ => fun
  | [d1, d2] => { results := [.lit (.bool false)], args := [d1, d2] }
  | _ => none }
def LocksFreeWrongFalsely : Prop := locksFreeRow.holds Try.pinned (OpenSpec.ofChange locksFreeWrong)

/-- 'concordatlaw11.LocksRaised': WHATEVER THE INPUT: true; the input reads as it did. -/
def locksRaisedSpec : ChangeSpec := { name := "locksRaised", fn := fun _ => fun
  | [d1, d2] => { results := [.lit (.bool true)], args := [d1, d2] }
  | _ => none }
def locksRaisedRow : OpenClaim := { program := "ytomhkflcimbbiaa", sum := "156956b716223572034ba43cc75452805c34fc437e5542b41bfcf445718d2558", func := "concordat/concordatlaw11.LocksRaised", spec := "locksRaised", unfollowed := true, recurses := true, apart := false }
def LocksRaisedSaid : Prop := locksRaisedRow.holds Try.pinned (OpenSpec.ofChange locksRaisedSpec)

/-- ITS FALSE NEIGHBOUR: 'it returns false'. Refute it at one input. -/
def locksRaisedWrong : ChangeSpec := { name := "locksRaised", fn := fun _ => fun
  | [d1, d2] => { results := [.lit (.bool false)], args := [d1, d2] }
  | _ => none }
def LocksRaisedWrongFalsely : Prop := locksRaisedRow.holds Try.pinned (OpenSpec.ofChange locksRaisedWrong)

/-- 'concordatlaw11.LocksMany': WHATEVER THE INPUT: true; the input reads as it did. -/
def locksManySpec : ChangeSpec := { name := "locksMany", fn := fun _ => fun
  | [d1, d2] => { results := [.lit (.bool true)], args := [d1, d2] }
  | _ => none }
def locksManyRow : OpenClaim := { program := "ytomhkflcimbbiaa", sum := "156956b716223572034ba43cc75452805c34fc437e5542b41bfcf445718d2558", func := "concordat/concordatlaw11.LocksMany", spec := "locksMany", unfollowed := true, recurses := true, apart := false }
def LocksManySaid : Prop := locksManyRow.holds Try.pinned (OpenSpec.ofChange locksManySpec)

/-- ITS FALSE NEIGHBOUR: 'it returns false'. Refute it at one input. -/
def locksManyWrong : ChangeSpec := { name := "locksMany", fn := fun _ => fun
  | [d1, d2] => { results := [.lit (.bool false)], args := [d1, d2] }
  | _ => none }
def LocksManyWrongFalsely : Prop := locksManyRow.holds Try.pinned (OpenSpec.ofChange locksManyWrong)

/-- 'concordatlaw11.LocksOthers': WHATEVER THE INPUT: true; the input reads as it did. -/
def locksOthersSpec : ChangeSpec := { name := "locksOthers", fn := fun _ => fun
  | [d1, d2, d3] => { results := [.lit (.bool true)], args := [d1, d2, d3] }
  | _ => none }
def locksOthersRow : OpenClaim := { program := "ytomhkflcimbbiaa", sum := "156956b716223572034ba43cc75452805c34fc437e5542b41bfcf445718d2558", func := "concordat/concordatlaw11.LocksOthers", spec := "locksOthers", unfollowed := true, recurses := true, apart := false }
def LocksOthersSaid : Prop := locksOthersRow.holds Try.pinned (OpenSpec.ofChange locksOthersSpec)

/-- ITS FALSE NEIGHBOUR: 'it returns false'. Refute it at one input. -/
def locksOthersWrong : ChangeSpec := { name := "locksOthers", fn := fun _ => fun
  | [d1, d2, d3] => { results := [.lit (.bool false)], args := [d1, d2, d3] }
  | _ => none }
def LocksOthersWrongFalsely : Prop := locksOthersRow.holds Try.pinned (OpenSpec.ofChange locksOthersWrong)

/-- 'concordatlaw11.LocksSelf': WHATEVER THE INPUT: true; the input reads as it did. -/
def locksSelfSpec : ChangeSpec := { name := "locksSelf", fn := fun _ => fun
  | [d1, d2] => { results := [.lit (.bool true)], args := [d1, d2] }
  | _ => none }
def locksSelfRow : OpenClaim := { program := "ytomhkflcimbbiaa", sum := "156956b716223572034ba43cc75452805c34fc437e5542b41bfcf445718d2558", func := "concordat/concordatlaw11.LocksSelf", spec := "locksSelf", unfollowed := true, recurses := true, apart := false }
def LocksSelfSaid : Prop := locksSelfRow.holds Try.pinned (OpenSpec.ofChange locksSelfSpec)

/-- ITS FALSE NEIGHBOUR: 'it returns false'. Refute it at one input. -/
def locksSelfWrong : ChangeSpec := { name := "locksSelf", fn := fun _ => fun
  | [d1, d2] => { results := [.lit (.bool false)], args := [d1, d2] }
  | _ => none }
def LocksSelfWrongFalsely : Prop := locksSelfRow.holds Try.pinned (OpenSpec.ofChange locksSelfWrong)

/-- 'concordatlaw11.LocksShare': WHATEVER THE INPUT: true; the input reads as it did. -/
def locksShareSpec : ChangeSpec := { name := "locksShare", fn := fun _ => fun
  | [d1, d2] => { results := [.lit (.bool true)], args := [d1, d2] }
  | _ => none }
def locksShareRow : OpenClaim := { program := "ytomhkflcimbbiaa", sum := "156956b716223572034ba43cc75452805c34fc437e5542b41bfcf445718d2558", func := "concordat/concordatlaw11.LocksShare", spec := "locksShare", unfollowed := true, recurses := true, apart := false }
def LocksShareSaid : Prop := locksShareRow.holds Try.pinned (OpenSpec.ofChange locksShareSpec)

/-- ITS FALSE NEIGHBOUR: 'it returns false'. Refute it at one input. -/
def locksShareWrong : ChangeSpec := { name := "locksShare", fn := fun _ => fun
  | [d1, d2] => { results := [.lit (.bool false)], args := [d1, d2] }
  | _ => none }
def LocksShareWrongFalsely : Prop := locksShareRow.holds Try.pinned (OpenSpec.ofChange locksShareWrong)

/- THE SECOND FORM. 'bulk': how many values and letters a reading holds, each counted each time it is reached (what is shared counts as often as it is met; a slice's spare places count too). A statement '..UptoSaid' is the law's where the arguments, and the package variables that the reading takes, are together of bulk at most 1048576: NARROWER than '..Said'. Prove '..Said' where nothing that the law and all that it calls make is longer than what came in: it says more and counts as full. Else prove '..UptoSaid'. A law counts once. -/
mutual
def uptoBulk {H : Type} : DataW H → Nat
  | .lit (.string bytes) => bytes.length + 1
  | .lit _ => 1
  | .nil => 1
  | .ptr d => uptoBulk d + 1
  | .slice elems spare => uptoBulkAll elems + uptoBulkAll spare + 1
  | .agg parts => uptoBulkAll parts + 1
  | .iface _ d => uptoBulk d + 1
  | .map entries => uptoBulkEntries entries + 1
  | .held _ => 1
def uptoBulkAll {H : Type} : List (DataW H) → Nat
  | [] => 0
  | d :: r => uptoBulk d + uptoBulkAll r
def uptoBulkEntries {H : Type} : List (Lit × DataW H) → Nat
  | [] => 0
  | x :: r => uptoBulkEntry x + uptoBulkEntries r
def uptoBulkEntry {H : Type} : Lit × DataW H → Nat
  | (.string bytes, d) => bytes.length + uptoBulk d + 1
  | (_, d) => uptoBulk d + 1
 end
def uptoSmall : (H : Type) → List (DataW H) → Bool := fun _ ds => decide (uptoBulkAll ds ≤ 1048576)
def OpenSpec.upto (s : _root_.Go.ChangeSpec) : _root_.Go.OpenSpec := { _root_.Go.OpenSpec.ofChange s with cond := some uptoSmall }

/-- 'concordatlaw11.LocksNone', WHERE WHAT IT READS IS OF BULK AT MOST 1048576: true; the input reads as it did. -/
def locksNoneUptoRow : OpenClaim := { program := "ytomhkflcimbbiaa", sum := "156956b716223572034ba43cc75452805c34fc437e5542b41bfcf445718d2558", func := "concordat/concordatlaw11.LocksNone", spec := "locksNone", unfollowed := true, recurses := true, apart := false, narrowed := true }
def LocksNoneUptoSaid : Prop := locksNoneUptoRow.holds Try.pinned (OpenSpec.upto locksNoneSpec)

/-- 'concordatlaw11.LocksApart', WHERE WHAT IT READS IS OF BULK AT MOST 1048576: true; the input reads as it did. -/
def locksApartUptoRow : OpenClaim := { program := "ytomhkflcimbbiaa", sum := "156956b716223572034ba43cc75452805c34fc437e5542b41bfcf445718d2558", func := "concordat/concordatlaw11.LocksApart", spec := "locksApart", unfollowed := true, recurses := true, apart := false, narrowed := true }
def LocksApartUptoSaid : Prop := locksApartUptoRow.holds Try.pinned (OpenSpec.upto locksApartSpec)

/-- 'concordatlaw11.LocksFree', WHERE WHAT IT READS IS OF BULK AT MOST 1048576: true; the input reads as it did. -/
def locksFreeUptoRow : OpenClaim := { program := "ytomhkflcimbbiaa", sum := "156956b716223572034ba43cc75452805c34fc437e5542b41bfcf445718d2558", func := "concordat/concordatlaw11.LocksFree", spec := "locksFree", unfollowed := true, recurses := true, apart := false, narrowed := true }
def LocksFreeUptoSaid : Prop := locksFreeUptoRow.holds Try.pinned (OpenSpec.upto locksFreeSpec)

/-- 'concordatlaw11.LocksRaised', WHERE WHAT IT READS IS OF BULK AT MOST 1048576: true; the input reads as it did. -/
def locksRaisedUptoRow : OpenClaim := { program := "ytomhkflcimbbiaa", sum := "156956b716223572034ba43cc75452805c34fc437e5542b41bfcf445718d2558", func := "concordat/concordatlaw11.LocksRaised", spec := "locksRaised", unfollowed := true, recurses := true, apart := false, narrowed := true }
def LocksRaisedUptoSaid : Prop := locksRaisedUptoRow.holds Try.pinned (OpenSpec.upto locksRaisedSpec)

/-- 'concordatlaw11.LocksMany', WHERE WHAT IT READS IS OF BULK AT MOST 1048576: true; the input reads as it did. -/
def locksManyUptoRow : OpenClaim := { program := "ytomhkflcimbbiaa", sum := "156956b716223572034ba43cc75452805c34fc437e5542b41bfcf445718d2558", func := "concordat/concordatlaw11.LocksMany", spec := "locksMany", unfollowed := true, recurses := true, apart := false, narrowed := true }
def LocksManyUptoSaid : Prop := locksManyUptoRow.holds Try.pinned (OpenSpec.upto locksManySpec)

/-- 'concordatlaw11.LocksOthers', WHERE WHAT IT READS IS OF BULK AT MOST 1048576: true; the input reads as it did. -/
def locksOthersUptoRow : OpenClaim := { program := "ytomhkflcimbbiaa", sum := "156956b716223572034ba43cc75452805c34fc437e5542b41bfcf445718d2558", func := "concordat/concordatlaw11.LocksOthers", spec := "locksOthers", unfollowed := true, recurses := true, apart := false, narrowed := true }
def LocksOthersUptoSaid : Prop := locksOthersUptoRow.holds Try.pinned (OpenSpec.upto locksOthersSpec)

/-- 'concordatlaw11.LocksSelf', WHERE WHAT IT READS IS OF BULK AT MOST 1048576: true; the input reads as it did. -/
def locksSelfUptoRow : OpenClaim := { program := "ytomhkflcimbbiaa", sum := "156956b716223572034ba43cc75452805c34fc437e5542b41bfcf445718d2558", func := "concordat/concordatlaw11.LocksSelf", spec := "locksSelf", unfollowed := true, recurses := true, apart := false, narrowed := true }
def LocksSelfUptoSaid : Prop := locksSelfUptoRow.holds Try.pinned (OpenSpec.upto locksSelfSpec)

/-- 'concordatlaw11.LocksShare', WHERE WHAT IT READS IS OF BULK AT MOST 1048576: true; the input reads as it did. -/
def locksShareUptoRow : OpenClaim := { program := "ytomhkflcimbbiaa", sum := "156956b716223572034ba43cc75452805c34fc437e5542b41bfcf445718d2558", func := "concordat/concordatlaw11.LocksShare", spec := "locksShare", unfollowed := true, recurses := true, apart := false, narrowed := true }
def LocksShareUptoSaid : Prop := locksShareUptoRow.holds Try.pinned (OpenSpec.upto locksShareSpec)

end Rows
end Go.Proofs.Ytomhkflcimbbiaa
