import Derived.Test.YtimadkbdkdeepaaDoorProg
import Derived.Test.YtimadkbdkdeepaaDoorBase
import Derived.Test.YtimadkbdkdeepaaDoorMeet
set_option linter.unusedVariables false
set_option linter.unusedSimpArgs false
namespace Go.Proofs.YtimadkbdkdeepaaDoor
open Go.RowKit

set_option maxHeartbeats 400000 in
theorem in_calls (k a b : ByteArray) (w : World) :
    Calls Tryd.prog 28 #[.string k, .string a, .string b] w fun e w' => e = .returned (.bool (sin k a b)) ∧ w = w' := by
  unfold sin
  cases h : sle a k
  all_goals
    go_enter Tryd.func28, Tryd.ntmps28
    go_wp2
    go_ret
    exact ⟨by simp, rfl⟩

set_option maxHeartbeats 400000 in
theorem meet_calls (a b c d : ByteArray) (w : World) :
    Calls Tryd.prog 12 #[.agg #[.string a, .string b], .agg #[.string c, .string d]] w fun e w' => e = .returned (.bool (meet4 a b c d)) ∧ Below w.heap.size w w' := by
  unfold meet4
  cases h : sin (smax a c) a b
  all_goals
    go_enter Tryd.func12, Tryd.ntmps12
    go_wp2_with (go_at_call 28; refine (in_calls _ _ _ _).mono ?_; rintro e w' ⟨rfl, rfl⟩)
    go_ret
    exact ⟨by simp, ((Below.refl _ _).alloc (Nat.le_refl _) _).alloc (by simp) _⟩

def spanOf (q : Int) (k t : ByteArray) : ByteArray := if q = 4 then t else k

set_option maxHeartbeats 400000 in
theorem of_calls (q : Int) (k t : ByteArray) (d : Int) (w : World) :
    Calls Tryd.prog 13 #[.agg #[.int .u8 q, .string k, .string t, .int .u32 d]] w fun e w' => e = .returned (.agg #[.string k, .string (spanOf q k t)]) ∧ Below w.heap.size w w' := by
  unfold spanOf
  by_cases hq : q = 4
  · subst hq
    go_enter Tryd.func13, Tryd.ntmps13
    go_wp2
    refine bodyPost_ret (v := .agg #[.string k, .string t]) (by simp [results, Tryd.results13, go_sem]) rfl ⟨rfl, ?_⟩
    exact ((Below.refl _ _).alloc (Nat.le_refl _) _).alloc (by simp) _
  · have hb2 : (q != 4) = true := by simpa using hq
    rw [if_neg hq]
    go_enter Tryd.func13, Tryd.ntmps13
    go_wp2
    refine bodyPost_ret (v := .agg #[.string k, .string k]) (by simp [results, Tryd.results13, go_sem]) rfl ⟨rfl, ?_⟩
    exact ((Below.refl _ _).alloc (Nat.le_refl _) _).alloc (by simp) _

end Go.Proofs.YtimadkbdkdeepaaDoor
