/-
  The law concordatlaw11.LocksOthers: somebody who is free changes nothing of what all others have; nobody is told them any more. No condition.
-/
import Derived.Test.YtomhkflcimbbiaaRows
import Derived.Test.YtomhkflcimbbiaaLawLocksOthers
import Derived.Test.YtomhkflcimbbiaaShape
import Derived.Test.YtomhkflcimbbiaaLift
set_option linter.unusedVariables false
set_option linter.unusedSimpArgs false
namespace Go.Proofs.Ytomhkflcimbbiaa.LocksOthersRowProof
open Go.RowKit Go.ChangeShapes Go.WideShapes

theorem own : ownKnob Try.prog.godebug = none := by kernel_rfl
theorem laidOut : laidOutB Try.prog = true := by kernel_rfl

set_option maxRecDepth 100000 in
theorem lifted (os : Os) (started : os.Started) (H : Type) (enc : TypeId × Value → H) :
    ReturnsInHanded {} Try.checked os 8 .any (Rows.locksOthersSpec.pre6 enc Try.prog Try.f8 Rows.locksOthersRow.domain false) (Rows.locksOthersSpec.post enc Try.prog Try.f8 false true false false) := by
  refine law_lift (C := Try.checked) started own 8 Try.f8 Rows.locksOthersSpec (by kernel_rfl) Try.func8 laidOut (by decide +kernel) rfl 4 rfl Try.underlying4 ?_
    (ChangeSpec.witness6 (enc := enc) (C := Try.checked) false ⟨#[], #[.slice none 0 0, .int .u32 0, .agg #[.string ByteArray.empty, .string ByteArray.empty]], []⟩ 8 (by kernel_rfl) (by kernel_rfl) (by kernel_rfl) (by kernel_rfl)) ?_
  · intro ds hd
    match ds, hd with
    | [_, _, _], _ => rfl
  · intro W base args ds ps hval hA hsz
    rw [show Try.f8.params.toList = [39, 22, 24] from rfl] at hA hsz
    obtain ⟨v0, vs0, d0, ds0, p0, q0, hargs, rfl, rfl, h0, r0⟩ := trodAll_cons hA
    obtain ⟨v1, vs1, d1, ds1, p1, q1, rfl, rfl, rfl, h1, r1⟩ := trodAll_cons r0
    obtain ⟨v2, vs2, d2, ds2, p2, q2, rfl, rfl, rfl, h2, r2⟩ := trodAll_cons r1
    obtain ⟨rfl, rfl, rfl⟩ := trodAll_nil r2
    obtain rfl : args = #[v0, v1, v2] := by cases args; simp_all
    obtain ⟨a0, n0, c0, rfl⟩ := okWide_slice Try.underlying39 (hval 0 _ _ rfl rfl)
    obtain ⟨xs0, rd0, len0, ok0⟩ := lacts_of (arg_holds hsz 0 rfl rfl 12 (by kernel_rfl) h0)
    obtain ⟨m1, rfl⟩ := okWide_int Try.underlying22 (hval 1 _ _ rfl rfl)
    have ok1 := int_of (k := .u32) (arg_holds hsz 1 rfl rfl 12 (by kernel_rfl) h1)
    obtain ⟨x2, hcs2, ok2⟩ := span_of (arg_holds hsz 2 rfl rfl 12 (by kernel_rfl) h2)
    obtain rfl := agg_of_list (arg_agg Try.underlying24 (hval 2 _ _ rfl rfl)) hcs2
    exact locksOthers_walk _ xs0 m1 x2 W rd0 ok0 ok1 ok2

theorem over : Rows.locksOthersRow.holds Try.pinned (OpenSpec.ofChange Rows.locksOthersSpec) :=
  OpenClaim.holds_of_wide 8 Try.f8 rfl rfl rfl rfl rfl rfl rfl ⟨rfl, rfl, rfl, rfl, rfl⟩ rfl rfl rfl rfl rfl (by kernel_rfl) Try.func8 (by kernel_rfl)
    (of_decide_eq_true (by kernel_rfl)) (by unfold Func.isWrapper; first | (rw [if_pos (by decide +kernel)]; kernel_rfl) | (rw [if_neg (by decide +kernel)]; exact ⟨rfl, rfl⟩))
    (fun os started H enc _ => lifted os started H enc)

end Go.Proofs.Ytomhkflcimbbiaa.LocksOthersRowProof
namespace Go.Proofs.Ytomhkflcimbbiaa
/-- The row. -/
theorem locksOthers_holds : Rows.LocksOthersSaid := LocksOthersRowProof.over
#print axioms locksOthers_holds
end Go.Proofs.Ytomhkflcimbbiaa
