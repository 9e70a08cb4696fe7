/-
  The law concordatlaw10.SpansNone: what meets one of some spans meets one of them joined, and the other way about; each of them begins, and ends, as one of them does. No condition.
-/
import Derived.Test.YtbfmneblhlmiiaaRows
import Derived.Test.YtbfmneblhlmiiaaLawSpansNone
import Derived.Test.YtbfmneblhlmiiaaShape
import Derived.Test.YtbfmneblhlmiiaaLift
set_option linter.unusedVariables false
set_option linter.unusedSimpArgs false
namespace Go.Proofs.Ytbfmneblhlmiiaa.SpansNoneRowProof
open Go.RowKit Go.ChangeShapes Go.WideShapes

theorem own : ownKnob Try.prog.godebug = none := by kernel_rfl
theorem laidOut : laidOutB Try.prog = true := by kernel_rfl

set_option maxRecDepth 100000 in
theorem lifted (os : Os) (started : os.Started) (H : Type) (enc : TypeId × Value → H) :
    ReturnsInHanded {} Try.checked os 8 .any (Rows.spansNoneSpec.pre6 enc Try.prog Try.f8 Rows.spansNoneRow.domain false) (Rows.spansNoneSpec.post enc Try.prog Try.f8 false true false false) := by
  refine law_lift (C := Try.checked) started own 8 Try.f8 Rows.spansNoneSpec (by kernel_rfl) Try.func8 laidOut (by decide +kernel) rfl 4 rfl Try.underlying4 ?_
    (ChangeSpec.witness6 (enc := enc) (C := Try.checked) false ⟨#[], #[.agg #[.string ByteArray.empty, .string ByteArray.empty], .slice none 0 0], []⟩ 8 (by kernel_rfl) (by kernel_rfl) (by kernel_rfl) (by kernel_rfl)) ?_
  · intro ds hd
    match ds, hd with
    | [_, _], _ => rfl
  · intro W base args ds ps hval hA hsz
    rw [show Try.f8.params.toList = [27, 30] from rfl] at hA hsz
    obtain ⟨v0, vs0, d0, ds0, p0, q0, hargs, rfl, rfl, h0, r0⟩ := trodAll_cons hA
    obtain ⟨v1, vs1, d1, ds1, p1, q1, rfl, rfl, rfl, h1, r1⟩ := trodAll_cons r0
    obtain ⟨rfl, rfl, rfl⟩ := trodAll_nil r1
    obtain rfl : args = #[v0, v1] := by cases args; simp_all
    obtain ⟨x0, hcs0, ok0⟩ := span_of (arg_holds hsz 0 rfl rfl 12 (by kernel_rfl) h0)
    obtain rfl := agg_of_list (arg_agg Try.underlying27 (hval 0 _ _ rfl rfl)) hcs0
    obtain ⟨a1, n1, c1, rfl⟩ := okWide_slice Try.underlying30 (hval 1 _ _ rfl rfl)
    obtain ⟨xs1, rd1, len1, ok1⟩ := spans_of (arg_holds hsz 1 rfl rfl 12 (by kernel_rfl) h1)
    exact spansNone_walk x0 _ xs1 W rd1 len1 ok1 ok0

theorem over : Rows.spansNoneRow.holds Try.pinned (OpenSpec.ofChange Rows.spansNoneSpec) :=
  OpenClaim.holds_of_wide 8 Try.f8 rfl rfl rfl rfl rfl rfl rfl ⟨rfl, rfl, rfl, rfl, rfl⟩ rfl rfl rfl rfl rfl (by kernel_rfl) Try.func8 (by kernel_rfl)
    (of_decide_eq_true (by kernel_rfl)) (by unfold Func.isWrapper; first | (rw [if_pos (by decide +kernel)]; kernel_rfl) | (rw [if_neg (by decide +kernel)]; exact ⟨rfl, rfl⟩))
    (fun os started H enc _ => lifted os started H enc)

end Go.Proofs.Ytbfmneblhlmiiaa.SpansNoneRowProof
namespace Go.Proofs.Ytbfmneblhlmiiaa
/-- The row. -/
theorem spansNone_holds : Rows.SpansNoneSaid := SpansNoneRowProof.over
#print axioms spansNone_holds
end Go.Proofs.Ytbfmneblhlmiiaa
