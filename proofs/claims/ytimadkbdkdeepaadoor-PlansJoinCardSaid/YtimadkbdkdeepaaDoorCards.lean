/-
  DERIVED. GIVEN WITH THE SEED: THE CARDS: each row of YtimadkbdkdeepaaDoorRows.lean that lists a variable, with what it lists TIED to the program's text (the seventh form; the later family's looks); each row that meets fmt, with fmt's text TOLD by the authors' own Lean function (tested against real Go, not proved from fmt's source: count such statements apart). THE CARD IS WHAT COUNTS. Prove the row's statement (the work); the ties are given (YtimadkbdkdeepaaDoorTie.lean); close each card by the builder's one call (the guide's Derived/Test/ToyasCard.lean, 'card_holds'). Laid BY PROGRAM, IN A SANDBOX (cutbox-door.mjs). By AI agents, Wed Nov 11 2026. No macro, syntax, notation, axiom, sorry.
-/
import Derived.Test.YtimadkbdkdeepaaDoorRows
import GoSem.ClaimSeven
namespace Go.Proofs.YtimadkbdkdeepaaDoor
namespace Rows

/-- THE TIED CARD OF 'concordatlaw19.PlansKeep'. -/
def plansKeepCard : Claim7 := { stood := { row := plansKeepRow, standIns := [], harness := (true, "82bde46079059c1f5123f0ba44342c3324d690a4bb9ad8d43301218f7eccf2af"), looks := false }, kinds := [], alts := [], laidByText := true, laidKinds := [.data, .data, .data], laidTests := true, laidLooks := .later }
def PlansKeepCardSaid : Prop := Claim7.holds Tryd.pinned (.plain (OpenSpec.ofChange plansKeepSpec)) plansKeepCard

/-- THE TIED CARD OF 'concordatlaw19.PlansSpans'. -/
def plansSpansCard : Claim7 := { stood := { row := plansSpansRow, standIns := [], harness := (true, "82bde46079059c1f5123f0ba44342c3324d690a4bb9ad8d43301218f7eccf2af"), looks := false }, kinds := [], alts := [], laidByText := true, laidKinds := [.data, .data, .data], laidTests := true, laidLooks := .later }
def PlansSpansCardSaid : Prop := Claim7.holds Tryd.pinned (.plain (OpenSpec.ofChange plansSpansSpec)) plansSpansCard

/-- THE TIED CARD OF 'concordatlaw19.PlansJoin'. -/
def plansJoinCard : Claim7 := { stood := { row := plansJoinRow, standIns := [], harness := (true, "82bde46079059c1f5123f0ba44342c3324d690a4bb9ad8d43301218f7eccf2af"), looks := false }, kinds := [], alts := [], laidByText := true, laidKinds := [.data, .data, .data], laidTests := true, laidLooks := .later }
def PlansJoinCardSaid : Prop := Claim7.holds Tryd.pinned (.plain (OpenSpec.ofChange plansJoinSpec)) plansJoinCard

/-- THE SECOND FORM's CARD OF 'concordatlaw19.PlansKeep'. -/
def plansKeepUptoCard : Claim7 := { stood := { row := plansKeepUptoRow, standIns := [], harness := (true, "82bde46079059c1f5123f0ba44342c3324d690a4bb9ad8d43301218f7eccf2af"), looks := false }, kinds := [], alts := [], laidByText := true, laidKinds := [.data, .data, .data], laidTests := true, laidLooks := .later }
def PlansKeepUptoCardSaid : Prop := Claim7.holds Tryd.pinned (.plain (OpenSpec.upto plansKeepSpec)) plansKeepUptoCard

/-- THE SECOND FORM's CARD OF 'concordatlaw19.PlansSpans'. -/
def plansSpansUptoCard : Claim7 := { stood := { row := plansSpansUptoRow, standIns := [], harness := (true, "82bde46079059c1f5123f0ba44342c3324d690a4bb9ad8d43301218f7eccf2af"), looks := false }, kinds := [], alts := [], laidByText := true, laidKinds := [.data, .data, .data], laidTests := true, laidLooks := .later }
def PlansSpansUptoCardSaid : Prop := Claim7.holds Tryd.pinned (.plain (OpenSpec.upto plansSpansSpec)) plansSpansUptoCard

/-- THE SECOND FORM's CARD OF 'concordatlaw19.PlansJoin'. -/
def plansJoinUptoCard : Claim7 := { stood := { row := plansJoinUptoRow, standIns := [], harness := (true, "82bde46079059c1f5123f0ba44342c3324d690a4bb9ad8d43301218f7eccf2af"), looks := false }, kinds := [], alts := [], laidByText := true, laidKinds := [.data, .data, .data], laidTests := true, laidLooks := .later }
def PlansJoinUptoCardSaid : Prop := Claim7.holds Tryd.pinned (.plain (OpenSpec.upto plansJoinSpec)) plansJoinUptoCard
end Rows
end Go.Proofs.YtimadkbdkdeepaaDoor
