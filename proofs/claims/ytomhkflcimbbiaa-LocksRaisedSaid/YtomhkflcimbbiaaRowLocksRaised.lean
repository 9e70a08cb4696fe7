/-
  The law concordatlaw11.LocksRaised: a span that is asked for again is one; asked for alone it is alone from then on, and asked for with others after that it stays so. No condition.
-/
import Derived.Test.YtomhkflcimbbiaaRows
import Derived.Test.YtomhkflcimbbiaaLawLocksRaised
import Derived.Test.YtomhkflcimbbiaaShape
import Derived.Test.YtomhkflcimbbiaaLift
import Derived.Test.YtomhkflcimbbiaaArr
set_option linter.unusedVariables false
set_option linter.unusedSimpArgs false
namespace Go.Proofs.Ytomhkflcimbbiaa.LocksRaisedRowProof
open Go.RowKit Go.ChangeShapes Go.WideShapes

theorem own : ownKnob Try.prog.godebug = none := by kernel_rfl
theorem laidOut : laidOutB Try.prog = true := by kernel_rfl

set_option maxRecDepth 100000 in
theorem lifted (os : Os) (started : os.Started) (H : Type) (enc : TypeId × Value → H) :
    ReturnsInHanded {} Try.checked os 6 .any (Rows.locksRaisedSpec.pre6 enc Try.prog Try.f6 Rows.locksRaisedRow.domain false) (Rows.locksRaisedSpec.post enc Try.prog Try.f6 false true false false) := by
  refine law_lift (C := Try.checked) started own 6 Try.f6 Rows.locksRaisedSpec (by kernel_rfl) Try.func6 laidOut (by decide +kernel) rfl 4 rfl Try.underlying4 ?_
    (ChangeSpec.witness6 (enc := enc) (C := Try.checked) false ⟨#[], #[.agg #[.string ByteArray.empty, .string ByteArray.empty], .agg #[.bool false, .bool false, .bool false]], []⟩ 8 (by kernel_rfl) (by kernel_rfl) (by kernel_rfl) (by kernel_rfl)) ?_
  · intro ds hd
    match ds, hd with
    | [_, _], _ => rfl
  · intro W base args ds ps hval hA hsz
    rw [show Try.f6.params.toList = [24, 56] from rfl] at hA hsz
    obtain ⟨v0, vs0, d0, ds0, p0, q0, hargs, rfl, rfl, h0, r0⟩ := trodAll_cons hA
    obtain ⟨v1, vs1, d1, ds1, p1, q1, rfl, rfl, rfl, h1, r1⟩ := trodAll_cons r0
    obtain ⟨rfl, rfl, rfl⟩ := trodAll_nil r1
    obtain rfl : args = #[v0, v1] := by cases args; simp_all
    obtain ⟨x0, hcs0, ok0⟩ := span_of (arg_holds hsz 0 rfl rfl 12 (by kernel_rfl) h0)
    obtain rfl := agg_of_list (arg_agg Try.underlying24 (hval 0 _ _ rfl rfl)) hcs0
    obtain ⟨p1a, p1b, p1c, rfl⟩ := bool3_of Try.underlying56 Try.underlying4 (by kernel_rfl) (by kernel_rfl) (hval 1 _ _ rfl rfl) h1
    exact locksRaised_walk x0 p1a p1b p1c W ok0

theorem over : Rows.locksRaisedRow.holds Try.pinned (OpenSpec.ofChange Rows.locksRaisedSpec) :=
  OpenClaim.holds_of_wide 6 Try.f6 rfl rfl rfl rfl rfl rfl rfl ⟨rfl, rfl, rfl, rfl, rfl⟩ rfl rfl rfl rfl rfl (by kernel_rfl) Try.func6 (by kernel_rfl)
    (of_decide_eq_true (by kernel_rfl)) (by unfold Func.isWrapper; first | (rw [if_pos (by decide +kernel)]; kernel_rfl) | (rw [if_neg (by decide +kernel)]; exact ⟨rfl, rfl⟩))
    (fun os started H enc _ => lifted os started H enc)

end Go.Proofs.Ytomhkflcimbbiaa.LocksRaisedRowProof
namespace Go.Proofs.Ytomhkflcimbbiaa
/-- The row. -/
theorem locksRaised_holds : Rows.LocksRaisedSaid := LocksRaisedRowProof.over
#print axioms locksRaised_holds
end Go.Proofs.Ytomhkflcimbbiaa
