/-
  The law concordatlaw10.SpansCut: what meets a span meets one of the two that it is cut into at any text in it; joined again they are it. No condition.
-/
import Derived.Test.YtbfmneblhlmiiaaRows
import Derived.Test.YtbfmneblhlmiiaaLawSpansCut
import Derived.Test.YtbfmneblhlmiiaaShape
import Derived.Test.YtbfmneblhlmiiaaLift
set_option linter.unusedVariables false
set_option linter.unusedSimpArgs false
namespace Go.Proofs.Ytbfmneblhlmiiaa.SpansCutRowProof
open Go.RowKit Go.ChangeShapes Go.WideShapes

theorem own : ownKnob Try.prog.godebug = none := by kernel_rfl
theorem laidOut : laidOutB Try.prog = true := by kernel_rfl

set_option maxRecDepth 100000 in
theorem lifted (os : Os) (started : os.Started) (H : Type) (enc : TypeId × Value → H) :
    ReturnsInHanded {} Try.checked os 11 .any (Rows.spansCutSpec.pre6 enc Try.prog Try.f11 Rows.spansCutRow.domain false) (Rows.spansCutSpec.post enc Try.prog Try.f11 false true false false) := by
  refine law_lift (C := Try.checked) started own 11 Try.f11 Rows.spansCutSpec (by kernel_rfl) Try.func11 laidOut (by decide +kernel) rfl 4 rfl Try.underlying4 ?_
    (ChangeSpec.witness6 (enc := enc) (C := Try.checked) false ⟨#[], #[.agg #[.string ByteArray.empty, .string ByteArray.empty], .string ByteArray.empty, .agg #[.string ByteArray.empty, .string ByteArray.empty]], []⟩ 8 (by kernel_rfl) (by kernel_rfl) (by kernel_rfl) (by kernel_rfl)) ?_
  · intro ds hd
    match ds, hd with
    | [_, _, _], _ => rfl
  · intro W base args ds ps hval hA hsz
    rw [show Try.f11.params.toList = [27, 9, 27] from rfl] at hA hsz
    obtain ⟨v0, vs0, d0, ds0, p0, q0, hargs, rfl, rfl, h0, r0⟩ := trodAll_cons hA
    obtain ⟨v1, vs1, d1, ds1, p1, q1, rfl, rfl, rfl, h1, r1⟩ := trodAll_cons r0
    obtain ⟨v2, vs2, d2, ds2, p2, q2, rfl, rfl, rfl, h2, r2⟩ := trodAll_cons r1
    obtain ⟨rfl, rfl, rfl⟩ := trodAll_nil r2
    obtain rfl : args = #[v0, v1, v2] := by cases args; simp_all
    obtain ⟨x0, hcs0, ok0⟩ := span_of (arg_holds hsz 0 rfl rfl 12 (by kernel_rfl) h0)
    obtain rfl := agg_of_list (arg_agg Try.underlying27 (hval 0 _ _ rfl rfl)) hcs0
    obtain ⟨s1, rfl⟩ := okWide_string Try.underlying9 (hval 1 _ _ rfl rfl)
    have ok1 := str_of (arg_holds hsz 1 rfl rfl 12 (by kernel_rfl) h1)
    obtain ⟨x2, hcs2, ok2⟩ := span_of (arg_holds hsz 2 rfl rfl 12 (by kernel_rfl) h2)
    obtain rfl := agg_of_list (arg_agg Try.underlying27 (hval 2 _ _ rfl rfl)) hcs2
    exact spansCut_walk x0 s1 x2 W ok0 ok1 ok2

theorem over : Rows.spansCutRow.holds Try.pinned (OpenSpec.ofChange Rows.spansCutSpec) :=
  OpenClaim.holds_of_wide 11 Try.f11 rfl rfl rfl rfl rfl rfl rfl ⟨rfl, rfl, rfl, rfl, rfl⟩ rfl rfl rfl rfl rfl (by kernel_rfl) Try.func11 (by kernel_rfl)
    (of_decide_eq_true (by kernel_rfl)) (by unfold Func.isWrapper; first | (rw [if_pos (by decide +kernel)]; kernel_rfl) | (rw [if_neg (by decide +kernel)]; exact ⟨rfl, rfl⟩))
    (fun os started H enc _ => lifted os started H enc)

end Go.Proofs.Ytbfmneblhlmiiaa.SpansCutRowProof
namespace Go.Proofs.Ytbfmneblhlmiiaa
/-- The row. -/
theorem spansCut_holds : Rows.SpansCutSaid := SpansCutRowProof.over
#print axioms spansCut_holds
end Go.Proofs.Ytbfmneblhlmiiaa
