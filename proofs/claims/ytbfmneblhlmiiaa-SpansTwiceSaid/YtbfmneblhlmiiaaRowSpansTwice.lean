/-
  The law concordatlaw10.SpansTwice: joined again spans are as they were; in another order, or with some of them twice, they are joined to the same ones. No condition.
-/
import Derived.Test.YtbfmneblhlmiiaaRows
import Derived.Test.YtbfmneblhlmiiaaLawSpansTwice
import Derived.Test.YtbfmneblhlmiiaaShape
import Derived.Test.YtbfmneblhlmiiaaLift
set_option linter.unusedVariables false
set_option linter.unusedSimpArgs false
namespace Go.Proofs.Ytbfmneblhlmiiaa.SpansTwiceRowProof
open Go.RowKit Go.ChangeShapes Go.WideShapes

theorem own : ownKnob Try.prog.godebug = none := by kernel_rfl
theorem laidOut : laidOutB Try.prog = true := by kernel_rfl

set_option maxRecDepth 100000 in
theorem lifted (os : Os) (started : os.Started) (H : Type) (enc : TypeId × Value → H) :
    ReturnsInHanded {} Try.checked os 7 .any (Rows.spansTwiceSpec.pre6 enc Try.prog Try.f7 Rows.spansTwiceRow.domain false) (Rows.spansTwiceSpec.post enc Try.prog Try.f7 false true false false) := by
  refine law_lift (C := Try.checked) started own 7 Try.f7 Rows.spansTwiceSpec (by kernel_rfl) Try.func7 laidOut (by decide +kernel) rfl 4 rfl Try.underlying4 ?_
    (ChangeSpec.witness6 (enc := enc) (C := Try.checked) false ⟨#[], #[.slice none 0 0, .int .u8 0], []⟩ 8 (by kernel_rfl) (by kernel_rfl) (by kernel_rfl) (by kernel_rfl)) ?_
  · intro ds hd
    match ds, hd with
    | [_, _], _ => rfl
  · intro W base args ds ps hval hA hsz
    rw [show Try.f7.params.toList = [30, 5] from rfl] at hA hsz
    obtain ⟨v0, vs0, d0, ds0, p0, q0, hargs, rfl, rfl, h0, r0⟩ := trodAll_cons hA
    obtain ⟨v1, vs1, d1, ds1, p1, q1, rfl, rfl, rfl, h1, r1⟩ := trodAll_cons r0
    obtain ⟨rfl, rfl, rfl⟩ := trodAll_nil r1
    obtain rfl : args = #[v0, v1] := by cases args; simp_all
    obtain ⟨a0, n0, c0, rfl⟩ := okWide_slice Try.underlying30 (hval 0 _ _ rfl rfl)
    obtain ⟨xs0, rd0, len0, ok0⟩ := spans_of (arg_holds hsz 0 rfl rfl 12 (by kernel_rfl) h0)
    obtain ⟨m1, rfl⟩ := okWide_int Try.underlying5 (hval 1 _ _ rfl rfl)
    have ok1 := int_of (k := .u8) (arg_holds hsz 1 rfl rfl 12 (by kernel_rfl) h1)
    exact spansTwice_walk _ xs0 m1 W rd0 len0 ok0 ok1

theorem over : Rows.spansTwiceRow.holds Try.pinned (OpenSpec.ofChange Rows.spansTwiceSpec) :=
  OpenClaim.holds_of_wide 7 Try.f7 rfl rfl rfl rfl rfl rfl rfl ⟨rfl, rfl, rfl, rfl, rfl⟩ rfl rfl rfl rfl rfl (by kernel_rfl) Try.func7 (by kernel_rfl)
    (of_decide_eq_true (by kernel_rfl)) (by unfold Func.isWrapper; first | (rw [if_pos (by decide +kernel)]; kernel_rfl) | (rw [if_neg (by decide +kernel)]; exact ⟨rfl, rfl⟩))
    (fun os started H enc _ => lifted os started H enc)

end Go.Proofs.Ytbfmneblhlmiiaa.SpansTwiceRowProof
namespace Go.Proofs.Ytbfmneblhlmiiaa
/-- The row. -/
theorem spansTwice_holds : Rows.SpansTwiceSaid := SpansTwiceRowProof.over
#print axioms spansTwice_holds
end Go.Proofs.Ytbfmneblhlmiiaa
