/-
  The law concordatlaw14.VersionsSince: where nothing of a span changed since a commit, it is now as it was behind that; what a commit changes is told of it, and not of one behind it. No condition.
-/
import Derived.Test.YtimadkbdkdeepaaRows
import Derived.Test.YtimadkbdkdeepaaLawVersionsSince
import Derived.Test.YtimadkbdkdeepaaShape
import Derived.Test.YtimadkbdkdeepaaLift
set_option linter.unusedVariables false
set_option linter.unusedSimpArgs false
namespace Go.Proofs.Ytimadkbdkdeepaa.VersionsSinceRowProof
open Go.RowKit Go.ChangeShapes Go.WideShapes

theorem own : ownKnob Try.prog.godebug = none := by kernel_rfl
theorem laidOut : laidOutB Try.prog = true := by kernel_rfl

set_option maxRecDepth 100000 in
theorem lifted (os : Os) (started : os.Started) (H : Type) (enc : TypeId × Value → H) :
    ReturnsInHanded {} Try.checked os 4 .any (Rows.versionsSinceSpec.pre6 enc Try.prog Try.f4 Rows.versionsSinceRow.domain false) (Rows.versionsSinceSpec.post enc Try.prog Try.f4 false true false false) := by
  refine law_lift (C := Try.checked) started own 4 Try.f4 Rows.versionsSinceSpec (by kernel_rfl) Try.func4 laidOut (by decide +kernel) rfl 4 rfl Try.underlying4 ?_
    (ChangeSpec.witness6 (enc := enc) (C := Try.checked) false ⟨#[], #[.agg #[.slice none 0 0, .string ByteArray.empty, .string ByteArray.empty, .int .u32 0, .string ByteArray.empty, .int .u32 0, .bool false]], []⟩ 8 (by kernel_rfl) (by kernel_rfl) (by kernel_rfl) (by kernel_rfl)) ?_
  · intro ds hd
    match ds, hd with
    | [_], _ => rfl
  · intro W base args ds ps hval hA hsz
    rw [show Try.f4.params.toList = [50] from rfl] at hA hsz
    obtain ⟨v0, vs0, d0, ds0, p0, q0, hargs, rfl, rfl, h0, r0⟩ := trodAll_cons hA
    obtain ⟨rfl, rfl, rfl⟩ := trodAll_nil r0
    obtain rfl : args = #[v0] := by cases args; simp_all
    obtain ⟨a0, xs0, s0, m0, c0, hcs0, rd0, len0, ok0, okm0, oks0, okc0⟩ := vsince_of (arg_holds hsz 0 rfl rfl 12 (by kernel_rfl) h0)
    obtain rfl := agg_of_list (arg_agg Try.underlying50 (hval 0 _ _ rfl rfl)) hcs0
    exact versionsSince_walk a0 xs0 s0 m0 c0 W rd0 len0 ok0 okm0 oks0 okc0

theorem over : Rows.versionsSinceRow.holds Try.pinned (OpenSpec.ofChange Rows.versionsSinceSpec) :=
  OpenClaim.holds_of_wide 4 Try.f4 rfl rfl rfl rfl rfl rfl rfl ⟨rfl, rfl, rfl, rfl, rfl⟩ rfl rfl rfl rfl rfl (by kernel_rfl) Try.func4 (by kernel_rfl)
    (of_decide_eq_true (by kernel_rfl)) (by unfold Func.isWrapper; first | (rw [if_pos (by decide +kernel)]; kernel_rfl) | (rw [if_neg (by decide +kernel)]; exact ⟨rfl, rfl⟩))
    (fun os started H enc _ => lifted os started H enc)

end Go.Proofs.Ytimadkbdkdeepaa.VersionsSinceRowProof
namespace Go.Proofs.Ytimadkbdkdeepaa
/-- The row. -/
theorem versionsSince_holds : Rows.VersionsSinceSaid := VersionsSinceRowProof.over
#print axioms versionsSince_holds
end Go.Proofs.Ytimadkbdkdeepaa
