import Derived.Test.YtanjgeacmpmjhaaGreatDoorWord0
import Derived.Test.YtanjgeacmpmjhaaGreatDoorLayItoaM
import Derived.Shelf.Strconv.Itoa3
import Derived.Lib.ItoaLen
set_option linter.unusedVariables false
set_option linter.unusedSimpArgs false
set_option linter.unusedSectionVars false
namespace Go.Proofs.YtanjgeacmpmjhaaGreatDoor
open Go.RowKit Go.Shelf

/-- A number's text. -/
def numT (n : Int) : ByteArray := ⟨(Lib.itoa n).toArray⟩
theorem numT_small (n : Int) (h : -9223372036854775808 ≤ n ∧ n ≤ 9223372036854775807) : (numT n).size ≤ 100 := by
  unfold numT
  have := Lib.itoa_length_le n h.1 h.2
  show (Lib.itoa n).toArray.size ≤ 100
  rw [List.size_toArray]; omega

theorem itoa_calls (n : Int) (h0 : -9223372036854775808 ≤ n) (h1 : n ≤ 9223372036854775807) (w : World) (hT : Tab10 w) :
    Calls Tryz.prog 253 #[.int .i64 n] w fun e w' => e = .returned (.string (numT n)) ∧ Below w.heap.size w w' := by
  have := Any.strconv_Itoa itoaM n h0 h1 w hT
  refine Calls.mono this ?_
  rintro e w' ⟨rfl, k, os, rfl⟩
  exact ⟨rfl, Below.step (below_drewN w k) (below_grow _ _)⟩

def wd (n : Int) : ByteArray := ⟨#[35]⟩ ++ numT n
set_option maxHeartbeats 400000 in
theorem word_calls (n : Int) (hn : 0 ≤ n ∧ n ≤ 100000) (w : World) (hT : Tab10 w) :
    Calls Tryz.prog 234 #[.int .i64 n] w fun e w' => e = .returned (.string (wd n)) ∧ Below w.heap.size w w' := by
  have hc := itoa_calls n (by omega) (by omega) w hT
  have hs := numT_small n (by omega)
  have hw : wd n = ⟨#[35]⟩ ++ numT n := rfl
  have HW := Lib.hid hw
  clear hw
  generalize numT n = t at *
  have hsz : (⟨#[35]⟩ ++ t : ByteArray).size ≤ 9223372036854775807 := by rw [ByteArray.size_append]; have : (⟨#[35]⟩ : ByteArray).size = 1 := rfl; omega
  go_enter Tryz.func234, Tryz.ntmps234
  go_wp2_with (go_at_call 253; refine hc.mono ?_; rintro e w1 ⟨rfl, hb⟩)
  go_ret
  exact ⟨by rw [HW.out]; rfl, hb⟩

end Go.Proofs.YtanjgeacmpmjhaaGreatDoor
