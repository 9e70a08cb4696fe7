/-
  The law concordatlaw11.LocksNone: a table that is not there, or that no call made, answers nothing. No condition.
-/
import Derived.Test.YtomhkflcimbbiaaRows
import Derived.Test.YtomhkflcimbbiaaLawLocksNone
import Derived.Test.YtomhkflcimbbiaaShape
import Derived.Test.YtomhkflcimbbiaaLift
set_option linter.unusedVariables false
set_option linter.unusedSimpArgs false
namespace Go.Proofs.Ytomhkflcimbbiaa.LocksNoneRowProof
open Go.RowKit Go.ChangeShapes Go.WideShapes

theorem own : ownKnob Try.prog.godebug = none := by kernel_rfl
theorem laidOut : laidOutB Try.prog = true := by kernel_rfl

set_option maxRecDepth 100000 in
theorem lifted (os : Os) (started : os.Started) (H : Type) (enc : TypeId × Value → H) :
    ReturnsInHanded {} Try.checked os 3 .any (Rows.locksNoneSpec.pre6 enc Try.prog Try.f3 Rows.locksNoneRow.domain false) (Rows.locksNoneSpec.post enc Try.prog Try.f3 false true false false) := by
  refine law_lift (C := Try.checked) started own 3 Try.f3 Rows.locksNoneSpec (by kernel_rfl) Try.func3 laidOut (by decide +kernel) rfl 4 rfl Try.underlying4 ?_
    (ChangeSpec.witness6 (enc := enc) (C := Try.checked) false ⟨#[], #[.int .u32 0, .agg #[.string ByteArray.empty, .string ByteArray.empty], .bool false], []⟩ 8 (by kernel_rfl) (by kernel_rfl) (by kernel_rfl) (by kernel_rfl)) ?_
  · intro ds hd
    match ds, hd with
    | [_, _, _], _ => rfl
  · intro W base args ds ps hval hA hsz
    rw [show Try.f3.params.toList = [22, 24, 4] from rfl] at hA hsz
    obtain ⟨v0, vs0, d0, ds0, p0, q0, hargs, rfl, rfl, h0, r0⟩ := trodAll_cons hA
    obtain ⟨v1, vs1, d1, ds1, p1, q1, rfl, rfl, rfl, h1, r1⟩ := trodAll_cons r0
    obtain ⟨v2, vs2, d2, ds2, p2, q2, rfl, rfl, rfl, h2, r2⟩ := trodAll_cons r1
    obtain ⟨rfl, rfl, rfl⟩ := trodAll_nil r2
    obtain rfl : args = #[v0, v1, v2] := by cases args; simp_all
    obtain ⟨m0, rfl⟩ := okWide_int Try.underlying22 (hval 0 _ _ rfl rfl)
    have ok0 := int_of (k := .u32) (arg_holds hsz 0 rfl rfl 12 (by kernel_rfl) h0)
    obtain ⟨x1, hcs1, ok1⟩ := span_of (arg_holds hsz 1 rfl rfl 12 (by kernel_rfl) h1)
    obtain rfl := agg_of_list (arg_agg Try.underlying24 (hval 1 _ _ rfl rfl)) hcs1
    obtain ⟨m2, rfl⟩ := okWide_bool Try.underlying4 (hval 2 _ _ rfl rfl)
    exact locksNone_walk m0 x1 m2 W

theorem over : Rows.locksNoneRow.holds Try.pinned (OpenSpec.ofChange Rows.locksNoneSpec) :=
  OpenClaim.holds_of_wide 3 Try.f3 rfl rfl rfl rfl rfl rfl rfl ⟨rfl, rfl, rfl, rfl, rfl⟩ rfl rfl rfl rfl rfl (by kernel_rfl) Try.func3 (by kernel_rfl)
    (of_decide_eq_true (by kernel_rfl)) (by unfold Func.isWrapper; first | (rw [if_pos (by decide +kernel)]; kernel_rfl) | (rw [if_neg (by decide +kernel)]; exact ⟨rfl, rfl⟩))
    (fun os started H enc _ => lifted os started H enc)

end Go.Proofs.Ytomhkflcimbbiaa.LocksNoneRowProof
namespace Go.Proofs.Ytomhkflcimbbiaa
/-- The row. -/
theorem locksNone_holds : Rows.LocksNoneSaid := LocksNoneRowProof.over
#print axioms locksNone_holds
end Go.Proofs.Ytomhkflcimbbiaa
