import Derived.Test.YtanjgeacmpmjhaaGreatDoorProg
import Derived.Test.YtanjgeacmpmjhaaGreatDoorBase
set_option linter.unusedVariables false
set_option linter.unusedSimpArgs false
namespace Go.Proofs.YtanjgeacmpmjhaaGreatDoor
open Go.RowKit

set_option maxHeartbeats 400000 in
theorem isnan_calls (a : ByteArray) (w : World) :
    Calls Tryz.prog 252 #[.string a] w fun e w' => e = .returned (.bool false) ∧ w = w' := by
  go_enter Tryz.func252, Tryz.ntmps252
  go_wp2
  go_ret
  exact ⟨by simp, rfl⟩

/-- how two texts stand. -/
def scmp (a b : Str) : Int := if slt a b then -1 else if slt b a then 1 else 0

theorem scmp_neg (a b : Str) : decide (scmp a b < 0) = slt a b := by
  unfold scmp
  cases slt a b <;> cases slt b a <;> simp

theorem scmp_zero (a b : Str) : (scmp a b == 0) = decide (a = b) := by
  unfold scmp
  cases h : slt a b
  · cases h' : slt b a
    · rw [slt_total h h']; simp
    · simp [(slt_ne h').symm]
  · simp [slt_ne h]

set_option maxHeartbeats 400000 in
theorem compare_calls (a b : ByteArray) (w : World) :
    Calls Tryz.prog 233 #[.string a, .string b] w fun e w' => e = .returned (.int .i64 (scmp a b)) ∧ w = w' := by
  unfold scmp
  cases h : slt a b
  · cases h' : slt b a
    · obtain rfl := slt_total h h'
      clear h'
      go_enter Tryz.func233, Tryz.ntmps233
      go_wp2_with (go_at_call 252; refine (isnan_calls _ _).mono ?_; rintro e w' ⟨rfl, rfl⟩)
      go_ret
      exact ⟨by simp, rfl⟩
    · have hne : decide (a = b) = false := decide_eq_false fun e => slt_ne h' e.symm
      go_enter Tryz.func233, Tryz.ntmps233
      go_wp2_with (go_at_call 252; refine (isnan_calls _ _).mono ?_; rintro e w' ⟨rfl, rfl⟩)
      go_ret
      exact ⟨by simp, rfl⟩
  · have hne : decide (a = b) = false := decide_eq_false fun e => slt_ne h e
    go_enter Tryz.func233, Tryz.ntmps233
    go_wp2_with (go_at_call 252; refine (isnan_calls _ _).mono ?_; rintro e w' ⟨rfl, rfl⟩)
    go_ret
    exact ⟨by simp, rfl⟩

end Go.Proofs.YtanjgeacmpmjhaaGreatDoor
