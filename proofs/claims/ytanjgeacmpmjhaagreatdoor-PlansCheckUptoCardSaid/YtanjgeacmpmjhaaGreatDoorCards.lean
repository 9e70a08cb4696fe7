/-
  DERIVED. GIVEN WITH THE SEED: THE CARDS: each row of YtanjgeacmpmjhaaGreatDoorRows.lean that lists a variable, with what it lists TIED to the program's text (the seventh form; the later family's looks); each row that meets fmt, with fmt's text TOLD by the authors' own Lean function (tested against real Go, not proved from fmt's source: count such statements apart). THE CARD IS WHAT COUNTS. Prove the row's statement (the work); the ties are given (YtanjgeacmpmjhaaGreatDoorTie.lean); close each card by the builder's one call (the guide's Derived/Test/ToyasCard.lean, 'card_holds'). Laid BY PROGRAM, IN A SANDBOX (cutbox-door.mjs). By AI agents, Wed Nov 11 2026. No macro, syntax, notation, axiom, sorry.
-/
import Derived.Test.YtanjgeacmpmjhaaGreatDoorRows
import GoSem.ClaimSeven
namespace Go.Proofs.YtanjgeacmpmjhaaGreatDoor
namespace Rows

/-- THE TIED CARD OF 'concordatlaw13.StoresPlay'. -/
def storesPlayCard : Claim7 := { stood := { row := storesPlayRow, standIns := [], harness := (true, "7fb558027c1278ae37d36e3cfd11895668a8daf26dc79cb53f5bff61fbe727c3"), looks := false }, kinds := [], alts := [], laidByText := true, laidKinds := [.data, .data, .data], laidTests := true, laidLooks := .later }
def StoresPlayCardSaid : Prop := Claim7.holds Tryz.pinned (.plain (OpenSpec.ofChange storesPlaySpec)) storesPlayCard

/-- THE TIED CARD OF 'concordatlaw14.VersionsPlay'. -/
def versionsPlayCard : Claim7 := { stood := { row := versionsPlayRow, standIns := [], harness := (true, "7fb558027c1278ae37d36e3cfd11895668a8daf26dc79cb53f5bff61fbe727c3"), looks := false }, kinds := [], alts := [], laidByText := true, laidKinds := [.data, .data, .data], laidTests := true, laidLooks := .later }
def VersionsPlayCardSaid : Prop := Claim7.holds Tryz.pinned (.plain (OpenSpec.ofChange versionsPlaySpec)) versionsPlayCard

/-- THE TIED CARD OF 'concordatlaw11.LocksPlay'. -/
def locksPlayCard : Claim7 := { stood := { row := locksPlayRow, standIns := [], harness := (true, "7fb558027c1278ae37d36e3cfd11895668a8daf26dc79cb53f5bff61fbe727c3"), looks := false }, kinds := [], alts := [], laidByText := true, laidKinds := [.data, .data, .data], laidTests := true, laidLooks := .later }
def LocksPlayCardSaid : Prop := Claim7.holds Tryz.pinned (.plain (OpenSpec.ofChange locksPlaySpec)) locksPlayCard

/-- THE TIED CARD OF 'concordatlaw19.PlansCheck'. -/
def plansCheckCard : Claim7 := { stood := { row := plansCheckRow, standIns := [], harness := (true, "7fb558027c1278ae37d36e3cfd11895668a8daf26dc79cb53f5bff61fbe727c3"), looks := false }, kinds := [], alts := [], laidByText := true, laidKinds := [.data, .data, .data], laidTests := true, laidLooks := .later }
def PlansCheckCardSaid : Prop := Claim7.holds Tryz.pinned (.plain (OpenSpec.ofChange plansCheckSpec)) plansCheckCard

/-- THE TIED CARD OF 'concordatlaw19.PlansRun'. -/
def plansRunCard : Claim7 := { stood := { row := plansRunRow, standIns := [], harness := (true, "7fb558027c1278ae37d36e3cfd11895668a8daf26dc79cb53f5bff61fbe727c3"), looks := false }, kinds := [], alts := [], laidByText := true, laidKinds := [.data, .data, .data], laidTests := true, laidLooks := .later }
def PlansRunCardSaid : Prop := Claim7.holds Tryz.pinned (.plain (OpenSpec.ofChange plansRunSpec)) plansRunCard

/-- THE SECOND FORM's CARD OF 'concordatlaw13.StoresPlay'. -/
def storesPlayUptoCard : Claim7 := { stood := { row := storesPlayUptoRow, standIns := [], harness := (true, "7fb558027c1278ae37d36e3cfd11895668a8daf26dc79cb53f5bff61fbe727c3"), looks := false }, kinds := [], alts := [], laidByText := true, laidKinds := [.data, .data, .data], laidTests := true, laidLooks := .later }
def StoresPlayUptoCardSaid : Prop := Claim7.holds Tryz.pinned (.plain (OpenSpec.upto storesPlaySpec)) storesPlayUptoCard

/-- THE SECOND FORM's CARD OF 'concordatlaw14.VersionsPlay'. -/
def versionsPlayUptoCard : Claim7 := { stood := { row := versionsPlayUptoRow, standIns := [], harness := (true, "7fb558027c1278ae37d36e3cfd11895668a8daf26dc79cb53f5bff61fbe727c3"), looks := false }, kinds := [], alts := [], laidByText := true, laidKinds := [.data, .data, .data], laidTests := true, laidLooks := .later }
def VersionsPlayUptoCardSaid : Prop := Claim7.holds Tryz.pinned (.plain (OpenSpec.upto versionsPlaySpec)) versionsPlayUptoCard

/-- THE SECOND FORM's CARD OF 'concordatlaw11.LocksPlay'. -/
def locksPlayUptoCard : Claim7 := { stood := { row := locksPlayUptoRow, standIns := [], harness := (true, "7fb558027c1278ae37d36e3cfd11895668a8daf26dc79cb53f5bff61fbe727c3"), looks := false }, kinds := [], alts := [], laidByText := true, laidKinds := [.data, .data, .data], laidTests := true, laidLooks := .later }
def LocksPlayUptoCardSaid : Prop := Claim7.holds Tryz.pinned (.plain (OpenSpec.upto locksPlaySpec)) locksPlayUptoCard

/-- THE SECOND FORM's CARD OF 'concordatlaw19.PlansCheck'. -/
def plansCheckUptoCard : Claim7 := { stood := { row := plansCheckUptoRow, standIns := [], harness := (true, "7fb558027c1278ae37d36e3cfd11895668a8daf26dc79cb53f5bff61fbe727c3"), looks := false }, kinds := [], alts := [], laidByText := true, laidKinds := [.data, .data, .data], laidTests := true, laidLooks := .later }
def PlansCheckUptoCardSaid : Prop := Claim7.holds Tryz.pinned (.plain (OpenSpec.upto plansCheckSpec)) plansCheckUptoCard

/-- THE SECOND FORM's CARD OF 'concordatlaw19.PlansRun'. -/
def plansRunUptoCard : Claim7 := { stood := { row := plansRunUptoRow, standIns := [], harness := (true, "7fb558027c1278ae37d36e3cfd11895668a8daf26dc79cb53f5bff61fbe727c3"), looks := false }, kinds := [], alts := [], laidByText := true, laidKinds := [.data, .data, .data], laidTests := true, laidLooks := .later }
def PlansRunUptoCardSaid : Prop := Claim7.holds Tryz.pinned (.plain (OpenSpec.upto plansRunSpec)) plansRunUptoCard
end Rows
end Go.Proofs.YtanjgeacmpmjhaaGreatDoor
