/-
  DERIVED. GIVEN WITH THE SEED: THE CARDS: each row of YtbfmneblhlmiiaaGreatDoorRows.lean that lists a variable, with what it lists TIED to the program's text (the seventh form; the later family's looks); each row that meets fmt, with fmt's text TOLD by the authors' own Lean function (tested against real Go, not proved from fmt's source: count such statements apart). THE CARD IS WHAT COUNTS. Prove the row's statement (the work); the ties are given (YtbfmneblhlmiiaaGreatDoorTie.lean); close each card by the builder's one call (the guide's Derived/Test/ToyasCard.lean, 'card_holds'). Laid BY PROGRAM, IN A SANDBOX (cutbox-door.mjs). By AI agents, Wed Nov 11 2026. No macro, syntax, notation, axiom, sorry.
-/
import Derived.Test.YtbfmneblhlmiiaaGreatDoorRows
import GoSem.ClaimSeven
namespace Go.Proofs.YtbfmneblhlmiiaaGreatDoor
namespace Rows

/-- THE TIED CARD OF 'concordatlaw10.SpansJoin'. -/
def spansJoinCard : Claim7 := { stood := { row := spansJoinRow, standIns := [], harness := (true, "0168f55d4c1a60bb0651f36531bd1b8da42052f6723c6f43b23336a4d9371019"), looks := false }, kinds := [], alts := [], laidByText := true, laidKinds := [.data, .data, .data], laidTests := true, laidLooks := .later }
def SpansJoinCardSaid : Prop := Claim7.holds Tryz.pinned (.plain (OpenSpec.ofChange spansJoinSpec)) spansJoinCard

/-- THE SECOND FORM's CARD OF 'concordatlaw10.SpansJoin'. -/
def spansJoinUptoCard : Claim7 := { stood := { row := spansJoinUptoRow, standIns := [], harness := (true, "0168f55d4c1a60bb0651f36531bd1b8da42052f6723c6f43b23336a4d9371019"), looks := false }, kinds := [], alts := [], laidByText := true, laidKinds := [.data, .data, .data], laidTests := true, laidLooks := .later }
def SpansJoinUptoCardSaid : Prop := Claim7.holds Tryz.pinned (.plain (OpenSpec.upto spansJoinSpec)) spansJoinUptoCard
end Rows
end Go.Proofs.YtbfmneblhlmiiaaGreatDoor
