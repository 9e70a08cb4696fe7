import Derived.Test.YtomhkflcimbbiaaProg
import Derived.Test.YtomhkflcimbbiaaBase
import Derived.Test.YtomhkflcimbbiaaMeet
set_option linter.unusedVariables false
set_option linter.unusedSimpArgs false
namespace Go.Proofs.Ytomhkflcimbbiaa
open Go.RowKit

set_option maxHeartbeats 400000 in
theorem in_calls (k a b : ByteArray) (w : World) :
    Calls Try.prog 36 #[.string k, .string a, .string b] w fun e w' => e = .returned (.bool (sin k a b)) ∧ w = w' := by
  unfold sin
  cases h : sle a k
  all_goals
    go_enter Try.func36, Try.ntmps36
    go_wp2
    go_ret
    exact ⟨by simp, rfl⟩

set_option maxHeartbeats 400000 in
theorem meet_calls (a b c d : ByteArray) (w : World) :
    Calls Try.prog 20 #[.agg #[.string a, .string b], .agg #[.string c, .string d]] w fun e w' => e = .returned (.bool (meet4 a b c d)) ∧ Below w.heap.size w w' := by
  unfold meet4
  cases h : sin (smax a c) a b
  all_goals
    go_enter Try.func20, Try.ntmps20
    go_wp2_with (go_at_call 36; refine (in_calls _ _ _ _).mono ?_; rintro e w' ⟨rfl, rfl⟩)
    go_ret
    exact ⟨by simp, ((Below.refl _ _).alloc (Nat.le_refl _) _).alloc (by simp) _⟩

end Go.Proofs.Ytomhkflcimbbiaa
