/-
  The law concordatlaw10.SpansInside: what begins and ends in a span that has something meets it, and is joined to it; what ends ahead of it does not, and is joined to none. No condition.
-/
import Derived.Test.YtbfmneblhlmiiaaRows
import Derived.Test.YtbfmneblhlmiiaaLawSpansInside
import Derived.Test.YtbfmneblhlmiiaaShape
import Derived.Test.YtbfmneblhlmiiaaLift
set_option linter.unusedVariables false
set_option linter.unusedSimpArgs false
namespace Go.Proofs.Ytbfmneblhlmiiaa.SpansInsideRowProof
open Go.RowKit Go.ChangeShapes Go.WideShapes

theorem own : ownKnob Try.prog.godebug = none := by kernel_rfl
theorem laidOut : laidOutB Try.prog = true := by kernel_rfl

set_option maxRecDepth 100000 in
theorem lifted (os : Os) (started : os.Started) (H : Type) (enc : TypeId × Value → H) :
    ReturnsInHanded {} Try.checked os 10 .any (Rows.spansInsideSpec.pre6 enc Try.prog Try.f10 Rows.spansInsideRow.domain false) (Rows.spansInsideSpec.post enc Try.prog Try.f10 false true false false) := by
  refine law_lift (C := Try.checked) started own 10 Try.f10 Rows.spansInsideSpec (by kernel_rfl) Try.func10 laidOut (by decide +kernel) rfl 4 rfl Try.underlying4 ?_
    (ChangeSpec.witness6 (enc := enc) (C := Try.checked) false ⟨#[], #[.agg #[.string ByteArray.empty, .string ByteArray.empty], .agg #[.string ByteArray.empty, .string ByteArray.empty]], []⟩ 8 (by kernel_rfl) (by kernel_rfl) (by kernel_rfl) (by kernel_rfl)) ?_
  · intro ds hd
    match ds, hd with
    | [_, _], _ => rfl
  · intro W base args ds ps hval hA hsz
    rw [show Try.f10.params.toList = [27, 27] from rfl] at hA hsz
    obtain ⟨v0, vs0, d0, ds0, p0, q0, hargs, rfl, rfl, h0, r0⟩ := trodAll_cons hA
    obtain ⟨v1, vs1, d1, ds1, p1, q1, rfl, rfl, rfl, h1, r1⟩ := trodAll_cons r0
    obtain ⟨rfl, rfl, rfl⟩ := trodAll_nil r1
    obtain rfl : args = #[v0, v1] := by cases args; simp_all
    obtain ⟨x0, hcs0, ok0⟩ := span_of (arg_holds hsz 0 rfl rfl 12 (by kernel_rfl) h0)
    obtain rfl := agg_of_list (arg_agg Try.underlying27 (hval 0 _ _ rfl rfl)) hcs0
    obtain ⟨x1, hcs1, ok1⟩ := span_of (arg_holds hsz 1 rfl rfl 12 (by kernel_rfl) h1)
    obtain rfl := agg_of_list (arg_agg Try.underlying27 (hval 1 _ _ rfl rfl)) hcs1
    exact spansInside_walk x0 x1 W ok0 ok1

theorem over : Rows.spansInsideRow.holds Try.pinned (OpenSpec.ofChange Rows.spansInsideSpec) :=
  OpenClaim.holds_of_wide 10 Try.f10 rfl rfl rfl rfl rfl rfl rfl ⟨rfl, rfl, rfl, rfl, rfl⟩ rfl rfl rfl rfl rfl (by kernel_rfl) Try.func10 (by kernel_rfl)
    (of_decide_eq_true (by kernel_rfl)) (by unfold Func.isWrapper; first | (rw [if_pos (by decide +kernel)]; kernel_rfl) | (rw [if_neg (by decide +kernel)]; exact ⟨rfl, rfl⟩))
    (fun os started H enc _ => lifted os started H enc)

end Go.Proofs.Ytbfmneblhlmiiaa.SpansInsideRowProof
namespace Go.Proofs.Ytbfmneblhlmiiaa
/-- The row. -/
theorem spansInside_holds : Rows.SpansInsideSaid := SpansInsideRowProof.over
#print axioms spansInside_holds
end Go.Proofs.Ytbfmneblhlmiiaa
