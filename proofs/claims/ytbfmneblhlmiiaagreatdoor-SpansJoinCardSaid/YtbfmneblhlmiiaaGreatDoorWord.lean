import Derived.Test.YtbfmneblhlmiiaaGreatDoorBase
import Derived.Test.YtbfmneblhlmiiaaGreatDoorLayItoaM
import Derived.Shelf.Strconv.Itoa3
import Derived.Lib.LaidTab
import Derived.Lib.ItoaLen
import Derived.Lib.SmallJoins
set_option linter.unusedVariables false
set_option linter.unusedSimpArgs false
set_option linter.unusedSectionVars false
namespace Go.Proofs.YtbfmneblhlmiiaaGreatDoor
open Go.RowKit Go.Shelf

/-- The library's table of powers lies as it was laid. -/
abbrev Tab10 (w : World) : Prop := Lib.TabIs Tryz.prog w "internal/strconv.uint64pow10" .u64 Lib.pow10Tab
theorem Tab10.stays {W w : World} (h : Tab10 W) (hb : Below W.heap.size W w) : Tab10 w :=
  Joins.tab_stays (g := 0) (by kernel_rfl) h hb (Nat.le_refl _)

theorem Tab10.keep {W w : World} {B : Nat} (h : Tab10 W) (hb : Below B W w) (hB : 0 < B) : Tab10 w := by
  unfold Tab10 Lib.TabIs World.var? at *
  rw [show Tryz.prog.globalNamed "internal/strconv.uint64pow10" = some 0 by kernel_rfl] at *
  simp only [Option.bind_some] at h ⊢
  rw [hb.block _ hB]
  exact h

theorem below_grow (w : World) (os : Array Obj) : Below w.heap.size w (Sort.grow w os) := by
  refine ⟨rfl, rfl, rfl, by simp [Sort.grow], fun i hi => ?_⟩
  simp [Sort.grow, Array.getElem?_append, hi]
theorem below_drewN (w : World) (k : Nat) : Below w.heap.size w (w.drewN k) := ⟨rfl, rfl, rfl, Nat.le_refl _, fun _ _ => rfl⟩

/-- A number's text. -/
def numT (n : Int) : ByteArray := ⟨(Lib.itoa n).toArray⟩
theorem numT_small (n : Int) (h : -9223372036854775808 ≤ n ∧ n ≤ 9223372036854775807) : (numT n).size ≤ 100 := by
  unfold numT
  have := Lib.itoa_length_le n h.1 h.2
  show (Lib.itoa n).toArray.size ≤ 100
  rw [List.size_toArray]; omega

theorem itoa_calls (n : Int) (h0 : -9223372036854775808 ≤ n) (h1 : n ≤ 9223372036854775807) (w : World) (hT : Tab10 w) :
    Calls Tryz.prog 106 #[.int .i64 n] w fun e w' => e = .returned (.string (numT n)) ∧ Below w.heap.size w w' := by
  have := Any.strconv_Itoa itoaM n h0 h1 w hT
  refine Calls.mono this ?_
  rintro e w' ⟨rfl, k, os, rfl⟩
  exact ⟨rfl, Below.step (below_drewN w k) (below_grow _ _)⟩

def wd (n : Int) : ByteArray := ⟨#[35]⟩ ++ numT n
set_option maxHeartbeats 400000 in
theorem word_calls (n : Int) (hn : 0 ≤ n ∧ n ≤ 100000) (w : World) (hT : Tab10 w) :
    Calls Tryz.prog 100 #[.int .i64 n] w fun e w' => e = .returned (.string (wd n)) ∧ Below w.heap.size w w' := by
  have hc := itoa_calls n (by omega) (by omega) w hT
  have hs := numT_small n (by omega)
  have hw : wd n = ⟨#[35]⟩ ++ numT n := rfl
  have HW := Lib.hid hw
  clear hw
  generalize numT n = t at *
  have hsz : (⟨#[35]⟩ ++ t : ByteArray).size ≤ 9223372036854775807 := by rw [ByteArray.size_append]; have : (⟨#[35]⟩ : ByteArray).size = 1 := rfl; omega
  go_enter Tryz.func100, Tryz.ntmps100
  go_wp2_with (go_at_call 106; refine hc.mono ?_; rintro e w1 ⟨rfl, hb⟩)
  go_ret
  exact ⟨by rw [HW.out]; rfl, hb⟩

end Go.Proofs.YtbfmneblhlmiiaaGreatDoor
