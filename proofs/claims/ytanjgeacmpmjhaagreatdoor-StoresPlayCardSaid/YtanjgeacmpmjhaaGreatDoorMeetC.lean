import Derived.Test.YtanjgeacmpmjhaaGreatDoorProg
import Derived.Test.YtanjgeacmpmjhaaGreatDoorBase
import Derived.Test.YtanjgeacmpmjhaaGreatDoorMeet
set_option linter.unusedVariables false
set_option linter.unusedSimpArgs false
namespace Go.Proofs.YtanjgeacmpmjhaaGreatDoor
open Go.RowKit

set_option maxHeartbeats 400000 in
theorem in_calls (k a b : ByteArray) (w : World) :
    Calls Tryz.prog 214 #[.string k, .string a, .string b] w fun e w' => e = .returned (.bool (sin k a b)) ∧ w = w' := by
  unfold sin
  cases h : sle a k
  all_goals
    go_enter Tryz.func214, Tryz.ntmps214
    go_wp2
    go_ret
    exact ⟨by simp, rfl⟩

set_option maxHeartbeats 400000 in
theorem meet_calls (a b c d : ByteArray) (w : World) :
    Calls Tryz.prog 139 #[.agg #[.string a, .string b], .agg #[.string c, .string d]] w fun e w' => e = .returned (.bool (meet4 a b c d)) ∧ Below w.heap.size w w' := by
  unfold meet4
  cases h : sin (smax a c) a b
  all_goals
    go_enter Tryz.func139, Tryz.ntmps139
    go_wp2_with (go_at_call 214; refine (in_calls _ _ _ _).mono ?_; rintro e w' ⟨rfl, rfl⟩)
    go_ret
    exact ⟨by simp, ((Below.refl _ _).alloc (Nat.le_refl _) _).alloc (by simp) _⟩

def spanOf (q : Int) (k t : ByteArray) : ByteArray := if q = 4 then t else k

set_option maxHeartbeats 400000 in
theorem of_calls (q : Int) (k t : ByteArray) (d : Int) (w : World) :
    Calls Tryz.prog 154 #[.agg #[.int .u8 q, .string k, .string t, .int .u32 d]] w fun e w' => e = .returned (.agg #[.string k, .string (spanOf q k t)]) ∧ Below w.heap.size w w' := by
  unfold spanOf
  by_cases hq : q = 4
  · subst hq
    go_enter Tryz.func154, Tryz.ntmps154
    go_wp2
    refine bodyPost_ret (v := .agg #[.string k, .string t]) (by simp [results, Tryz.results154, go_sem]) rfl ⟨rfl, ?_⟩
    exact ((Below.refl _ _).alloc (Nat.le_refl _) _).alloc (by simp) _
  · have hb2 : (q != 4) = true := by simpa using hq
    rw [if_neg hq]
    go_enter Tryz.func154, Tryz.ntmps154
    go_wp2
    refine bodyPost_ret (v := .agg #[.string k, .string k]) (by simp [results, Tryz.results154, go_sem]) rfl ⟨rfl, ?_⟩
    exact ((Below.refl _ _).alloc (Nat.le_refl _) _).alloc (by simp) _

end Go.Proofs.YtanjgeacmpmjhaaGreatDoor
