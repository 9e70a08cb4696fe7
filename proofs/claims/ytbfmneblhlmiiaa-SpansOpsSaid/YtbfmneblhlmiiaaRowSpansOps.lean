/-
  The law concordatlaw10.SpansOps: the span of an op has its key, and of a scan all from there to where it ends; others have that key alone. No condition.
-/
import Derived.Test.YtbfmneblhlmiiaaRows
import Derived.Test.YtbfmneblhlmiiaaLawSpansOps
import Derived.Test.YtbfmneblhlmiiaaShape
import Derived.Test.YtbfmneblhlmiiaaLift
set_option linter.unusedVariables false
set_option linter.unusedSimpArgs false
namespace Go.Proofs.Ytbfmneblhlmiiaa.SpansOpsRowProof
open Go.RowKit Go.ChangeShapes Go.WideShapes

theorem own : ownKnob Try.prog.godebug = none := by kernel_rfl
theorem laidOut : laidOutB Try.prog = true := by kernel_rfl

set_option maxRecDepth 100000 in
theorem lifted (os : Os) (started : os.Started) (H : Type) (enc : TypeId × Value → H) :
    ReturnsInHanded {} Try.checked os 9 .any (Rows.spansOpsSpec.pre6 enc Try.prog Try.f9 Rows.spansOpsRow.domain false) (Rows.spansOpsSpec.post enc Try.prog Try.f9 false true false false) := by
  refine law_lift (C := Try.checked) started own 9 Try.f9 Rows.spansOpsSpec (by kernel_rfl) Try.func9 laidOut (by decide +kernel) rfl 4 rfl Try.underlying4 ?_
    (ChangeSpec.witness6 (enc := enc) (C := Try.checked) false ⟨#[], #[.agg #[.int .u8 0, .string ByteArray.empty, .string ByteArray.empty, .int .u32 0], .string ByteArray.empty], []⟩ 8 (by kernel_rfl) (by kernel_rfl) (by kernel_rfl) (by kernel_rfl)) ?_
  · intro ds hd
    match ds, hd with
    | [_, _], _ => rfl
  · intro W base args ds ps hval hA hsz
    rw [show Try.f9.params.toList = [25, 9] from rfl] at hA hsz
    obtain ⟨v0, vs0, d0, ds0, p0, q0, hargs, rfl, rfl, h0, r0⟩ := trodAll_cons hA
    obtain ⟨v1, vs1, d1, ds1, p1, q1, rfl, rfl, rfl, h1, r1⟩ := trodAll_cons r0
    obtain ⟨rfl, rfl, rfl⟩ := trodAll_nil r1
    obtain rfl : args = #[v0, v1] := by cases args; simp_all
    obtain ⟨x0, hcs0, ok0⟩ := opn_of (arg_holds hsz 0 rfl rfl 12 (by kernel_rfl) h0)
    obtain rfl := agg_of_list (arg_agg Try.underlying25 (hval 0 _ _ rfl rfl)) hcs0
    obtain ⟨s1, rfl⟩ := okWide_string Try.underlying9 (hval 1 _ _ rfl rfl)
    have ok1 := str_of (arg_holds hsz 1 rfl rfl 12 (by kernel_rfl) h1)
    exact spansOps_walk x0 s1 W ok0 ok1

theorem over : Rows.spansOpsRow.holds Try.pinned (OpenSpec.ofChange Rows.spansOpsSpec) :=
  OpenClaim.holds_of_wide 9 Try.f9 rfl rfl rfl rfl rfl rfl rfl ⟨rfl, rfl, rfl, rfl, rfl⟩ rfl rfl rfl rfl rfl (by kernel_rfl) Try.func9 (by kernel_rfl)
    (of_decide_eq_true (by kernel_rfl)) (by unfold Func.isWrapper; first | (rw [if_pos (by decide +kernel)]; kernel_rfl) | (rw [if_neg (by decide +kernel)]; exact ⟨rfl, rfl⟩))
    (fun os started H enc _ => lifted os started H enc)

end Go.Proofs.Ytbfmneblhlmiiaa.SpansOpsRowProof
namespace Go.Proofs.Ytbfmneblhlmiiaa
/-- The row. -/
theorem spansOps_holds : Rows.SpansOpsSaid := SpansOpsRowProof.over
#print axioms spansOps_holds
end Go.Proofs.Ytbfmneblhlmiiaa
