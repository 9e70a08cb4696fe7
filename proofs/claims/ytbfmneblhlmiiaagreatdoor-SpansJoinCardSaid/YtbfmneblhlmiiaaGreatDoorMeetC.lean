import Derived.Test.YtbfmneblhlmiiaaGreatDoorProg
import Derived.Test.YtbfmneblhlmiiaaGreatDoorBase
import Derived.Test.YtbfmneblhlmiiaaGreatDoorMeet
set_option linter.unusedVariables false
set_option linter.unusedSimpArgs false
namespace Go.Proofs.YtbfmneblhlmiiaaGreatDoor
open Go.RowKit

set_option maxHeartbeats 400000 in
theorem in_calls (k a b : ByteArray) (w : World) :
    Calls Tryz.prog 99 #[.string k, .string a, .string b] w fun e w' => e = .returned (.bool (sin k a b)) ∧ w = w' := by
  unfold sin
  cases h : sle a k
  all_goals
    go_enter Tryz.func99, Tryz.ntmps99
    go_wp2
    go_ret
    exact ⟨by simp, rfl⟩

set_option maxHeartbeats 400000 in
theorem meet_calls (a b c d : ByteArray) (w : World) :
    Calls Tryz.prog 61 #[.agg #[.string a, .string b], .agg #[.string c, .string d]] w fun e w' => e = .returned (.bool (meet4 a b c d)) ∧ Below w.heap.size w w' := by
  unfold meet4
  cases h : sin (smax a c) a b
  all_goals
    go_enter Tryz.func61, Tryz.ntmps61
    go_wp2_with (go_at_call 99; refine (in_calls _ _ _ _).mono ?_; rintro e w' ⟨rfl, rfl⟩)
    go_ret
    exact ⟨by simp, ((Below.refl _ _).alloc (Nat.le_refl _) _).alloc (by simp) _⟩

end Go.Proofs.YtbfmneblhlmiiaaGreatDoor
