import Derived.Test.YtanjgeacmpmjhaaGreatDoorProg
import Derived.Test.YtanjgeacmpmjhaaGreatDoorBase
import Derived.Sort.Grow
import Derived.Deep.Draws
import Derived.Lib.LaidTab
import Derived.Lib.ItoaNum
import Derived.Lib.ItoaWalk
import Derived.Lib.SmallJoins
set_option linter.unusedVariables false
set_option linter.unusedSimpArgs false
set_option linter.unusedSectionVars false
namespace Go.Proofs.YtanjgeacmpmjhaaGreatDoor
open Go.RowKit

/-- The library's table of powers lies as it was laid. -/
abbrev Tab10 (w : World) : Prop := Lib.TabIs Tryz.prog w "internal/strconv.uint64pow10" .u64 Lib.pow10Tab
theorem Tab10.stays {W w : World} (h : Tab10 W) (hb : Below W.heap.size W w) : Tab10 w :=
  Joins.tab_stays (g := 0) (by kernel_rfl) h hb (Nat.le_refl _)

theorem Tab10.keep {W w : World} {B : Nat} (h : Tab10 W) (hb : Below B W w) (hB : 0 < B) : Tab10 w := by
  unfold Tab10 Lib.TabIs World.var? at *
  rw [show Tryz.prog.globalNamed "internal/strconv.uint64pow10" = some 0 by kernel_rfl] at *
  simp only [Option.bind_some] at h ⊢
  rw [hb.block _ hB]
  exact h

theorem below_grow (w : World) (os : Array Obj) : Below w.heap.size w (Sort.grow w os) := by
  refine ⟨rfl, rfl, rfl, by simp [Sort.grow], fun i hi => ?_⟩
  simp [Sort.grow, Array.getElem?_append, hi]
theorem below_drewN (w : World) (k : Nat) : Below w.heap.size w (w.drewN k) := ⟨rfl, rfl, rfl, Nat.le_refl _, fun _ _ => rfl⟩

end Go.Proofs.YtanjgeacmpmjhaaGreatDoor
