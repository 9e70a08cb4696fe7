/-
  The law concordatlaw14.VersionsOne: a row that is got, behind any commit, is the one that a scan of its key tells; scans of two spans, the second one from the next key on, tell together what the scan of both tells. No condition.
-/
import Derived.Test.YtimadkbdkdeepaaRows
import Derived.Test.YtimadkbdkdeepaaLawVersionsOne
import Derived.Test.YtimadkbdkdeepaaShape
import Derived.Test.YtimadkbdkdeepaaLift
set_option linter.unusedVariables false
set_option linter.unusedSimpArgs false
namespace Go.Proofs.Ytimadkbdkdeepaa.VersionsOneRowProof
open Go.RowKit Go.ChangeShapes Go.WideShapes

theorem own : ownKnob Try.prog.godebug = none := by kernel_rfl
theorem laidOut : laidOutB Try.prog = true := by kernel_rfl

set_option maxRecDepth 100000 in
theorem lifted (os : Os) (started : os.Started) (H : Type) (enc : TypeId × Value → H) :
    ReturnsInHanded {} Try.checked os 3 .any (Rows.versionsOneSpec.pre6 enc Try.prog Try.f3 Rows.versionsOneRow.domain false) (Rows.versionsOneSpec.post enc Try.prog Try.f3 false true false false) := by
  refine law_lift (C := Try.checked) started own 3 Try.f3 Rows.versionsOneSpec (by kernel_rfl) Try.func3 laidOut (by decide +kernel) rfl 4 rfl Try.underlying4 ?_
    (ChangeSpec.witness6 (enc := enc) (C := Try.checked) false ⟨#[], #[.agg #[.slice none 0 0, .int .u32 0, .string ByteArray.empty, .string ByteArray.empty, .string ByteArray.empty]], []⟩ 8 (by kernel_rfl) (by kernel_rfl) (by kernel_rfl) (by kernel_rfl)) ?_
  · intro ds hd
    match ds, hd with
    | [_], _ => rfl
  · intro W base args ds ps hval hA hsz
    rw [show Try.f3.params.toList = [25] from rfl] at hA hsz
    obtain ⟨v0, vs0, d0, ds0, p0, q0, hargs, rfl, rfl, h0, r0⟩ := trodAll_cons hA
    obtain ⟨rfl, rfl, rfl⟩ := trodAll_nil r0
    obtain rfl : args = #[v0] := by cases args; simp_all
    obtain ⟨a0, xs0, m0, ka0, kb0, kc0, hcs0, rd0, len0, ok0, okm0, oka0, okb0, okc0⟩ := vone_of (arg_holds hsz 0 rfl rfl 12 (by kernel_rfl) h0)
    obtain rfl := agg_of_list (arg_agg Try.underlying25 (hval 0 _ _ rfl rfl)) hcs0
    exact versionsOne_walk a0 xs0 m0 ka0 kb0 kc0 W rd0 len0 ok0 okm0 oka0 okb0 okc0

theorem over : Rows.versionsOneRow.holds Try.pinned (OpenSpec.ofChange Rows.versionsOneSpec) :=
  OpenClaim.holds_of_wide 3 Try.f3 rfl rfl rfl rfl rfl rfl rfl ⟨rfl, rfl, rfl, rfl, rfl⟩ rfl rfl rfl rfl rfl (by kernel_rfl) Try.func3 (by kernel_rfl)
    (of_decide_eq_true (by kernel_rfl)) (by unfold Func.isWrapper; first | (rw [if_pos (by decide +kernel)]; kernel_rfl) | (rw [if_neg (by decide +kernel)]; exact ⟨rfl, rfl⟩))
    (fun os started H enc _ => lifted os started H enc)

end Go.Proofs.Ytimadkbdkdeepaa.VersionsOneRowProof
namespace Go.Proofs.Ytimadkbdkdeepaa
/-- The row. -/
theorem versionsOne_holds : Rows.VersionsOneSaid := VersionsOneRowProof.over
#print axioms versionsOne_holds
end Go.Proofs.Ytimadkbdkdeepaa
