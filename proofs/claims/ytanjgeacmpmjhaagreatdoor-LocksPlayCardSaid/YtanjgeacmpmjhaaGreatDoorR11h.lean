import Derived.Test.YtanjgeacmpmjhaaGreatDoorR11
import Derived.Test.YtanjgeacmpmjhaaGreatDoorRJoinC
import Derived.Test.YtanjgeacmpmjhaaGreatDoorUSort
import Derived.Test.YtanjgeacmpmjhaaGreatDoorMgLocksPlay28
import Derived.Deep.Cut
set_option linter.unusedVariables false
set_option linter.unusedSimpArgs false
set_option linter.unusedSectionVars false
namespace Go.Proofs.YtanjgeacmpmjhaaGreatDoor
open Go.RowKit

theorem info_u32r : (Tryz.prog.info? 42).map (fun i => (i.zero, i.size, i.bytes)) = some (some (.int .u32 0), 1, 4) := by kernel_rfl
theorem u32s_underR : Tryz.prog.underlying 91 = some (.slice 42) := by kernel_rfl
theorem wayStep_skip {who : Int} {f t : Str} {al : Bool} {os : List Int} {h : Held} (hc : h.who = who ∨ (al = false ∧ h.a = false) ∨ meet4 h.f h.t f t = false) : wayStep who f t al os h = os := by unfold wayStep; rw [if_pos hc]
theorem wayStep_put {who : Int} {f t : Str} {al : Bool} {os : List Int} {h : Held} {k : Nat} (hc : ¬ (h.who = who ∨ (al = false ∧ h.a = false) ∨ meet4 h.f h.t f t = false)) (hlow : ∀ j y, j < k → os[j]? = some y → y < h.who) (hk : k ≤ os.length) (hge : ∀ y, os[k]? = some y → ¬ y < h.who) :
    wayStep who f t al os h = if os[k]? = some h.who then os else os.take k ++ [h.who] ++ os.drop k := by
  unfold wayStep
  rw [if_neg hc, putL_at hlow hk hge]


end Go.Proofs.YtanjgeacmpmjhaaGreatDoor
