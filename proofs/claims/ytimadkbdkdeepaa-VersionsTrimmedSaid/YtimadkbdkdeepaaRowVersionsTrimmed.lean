/-
  The law concordatlaw14.VersionsTrimmed: to trim a past changes nothing of what rows were behind that commit, and behind each later one. No condition.
-/
import Derived.Test.YtimadkbdkdeepaaRows
import Derived.Test.YtimadkbdkdeepaaLawVersionsTrimmed
import Derived.Test.YtimadkbdkdeepaaShape
import Derived.Test.YtimadkbdkdeepaaLift
set_option linter.unusedVariables false
set_option linter.unusedSimpArgs false
namespace Go.Proofs.Ytimadkbdkdeepaa.VersionsTrimmedRowProof
open Go.RowKit Go.ChangeShapes Go.WideShapes

theorem own : ownKnob Try.prog.godebug = none := by kernel_rfl
theorem laidOut : laidOutB Try.prog = true := by kernel_rfl

set_option maxRecDepth 100000 in
theorem lifted (os : Os) (started : os.Started) (H : Type) (enc : TypeId × Value → H) :
    ReturnsInHanded {} Try.checked os 5 .any (Rows.versionsTrimmedSpec.pre6 enc Try.prog Try.f5 Rows.versionsTrimmedRow.domain false) (Rows.versionsTrimmedSpec.post enc Try.prog Try.f5 false true false false) := by
  refine law_lift (C := Try.checked) started own 5 Try.f5 Rows.versionsTrimmedSpec (by kernel_rfl) Try.func5 laidOut (by decide +kernel) rfl 4 rfl Try.underlying4 ?_
    (ChangeSpec.witness6 (enc := enc) (C := Try.checked) false ⟨#[], #[.slice none 0 0, .agg #[.string ByteArray.empty, .string ByteArray.empty], .int .u32 0], []⟩ 8 (by kernel_rfl) (by kernel_rfl) (by kernel_rfl) (by kernel_rfl)) ?_
  · intro ds hd
    match ds, hd with
    | [_, _, _], _ => rfl
  · intro W base args ds ps hval hA hsz
    rw [show Try.f5.params.toList = [22, 42, 23] from rfl] at hA hsz
    obtain ⟨v0, vs0, d0, ds0, p0, q0, hargs, rfl, rfl, h0, r0⟩ := trodAll_cons hA
    obtain ⟨v1, vs1, d1, ds1, p1, q1, rfl, rfl, rfl, h1, r1⟩ := trodAll_cons r0
    obtain ⟨v2, vs2, d2, ds2, p2, q2, rfl, rfl, rfl, h2, r2⟩ := trodAll_cons r1
    obtain ⟨rfl, rfl, rfl⟩ := trodAll_nil r2
    obtain rfl : args = #[v0, v1, v2] := by cases args; simp_all
    obtain ⟨a0, n0, c0, rfl⟩ := okWide_slice Try.underlying22 (hval 0 _ _ rfl rfl)
    obtain ⟨xs0, rd0, len0, ok0⟩ := vacts_of (arg_holds hsz 0 rfl rfl 12 (by kernel_rfl) h0)
    obtain ⟨x1, hcs1, ok1⟩ := span_of (arg_holds hsz 1 rfl rfl 12 (by kernel_rfl) h1)
    obtain rfl := agg_of_list (arg_agg Try.underlying42 (hval 1 _ _ rfl rfl)) hcs1
    obtain ⟨m2, rfl⟩ := okWide_int Try.underlying23 (hval 2 _ _ rfl rfl)
    have ok2 := int_of (k := .u32) (arg_holds hsz 2 rfl rfl 12 (by kernel_rfl) h2)
    exact versionsTrimmed_walk _ xs0 x1 m2 W rd0 len0 ok0 ok2

theorem over : Rows.versionsTrimmedRow.holds Try.pinned (OpenSpec.ofChange Rows.versionsTrimmedSpec) :=
  OpenClaim.holds_of_wide 5 Try.f5 rfl rfl rfl rfl rfl rfl rfl ⟨rfl, rfl, rfl, rfl, rfl⟩ rfl rfl rfl rfl rfl (by kernel_rfl) Try.func5 (by kernel_rfl)
    (of_decide_eq_true (by kernel_rfl)) (by unfold Func.isWrapper; first | (rw [if_pos (by decide +kernel)]; kernel_rfl) | (rw [if_neg (by decide +kernel)]; exact ⟨rfl, rfl⟩))
    (fun os started H enc _ => lifted os started H enc)

end Go.Proofs.Ytimadkbdkdeepaa.VersionsTrimmedRowProof
namespace Go.Proofs.Ytimadkbdkdeepaa
/-- The row. -/
theorem versionsTrimmed_holds : Rows.VersionsTrimmedSaid := VersionsTrimmedRowProof.over
#print axioms versionsTrimmed_holds
end Go.Proofs.Ytimadkbdkdeepaa
