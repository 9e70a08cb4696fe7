import Derived.Test.YtanjgeacmpmjhaaGreatDoorStr
set_option linter.unusedVariables false
namespace Go.Proofs.YtanjgeacmpmjhaaGreatDoor

/-- What a key may have. -/
def okRune (c : Nat) : Bool := (decide (97 ≤ c) && decide (c ≤ 122) || decide (48 ≤ c) && decide (c ≤ 57)) || decide (c = 95)
/-- May a text be a key? -/
def okKey (s : Str) : Bool := (decide (s.size ≠ 0) && decide (s.size ≤ 16)) && s.l.all fun c => okRune c.toNat

end Go.Proofs.YtanjgeacmpmjhaaGreatDoor
