/-
  The law concordatlaw13.StoresNone: a map that is not there, or that no call made, answers nothing. No condition.
-/
import Derived.Test.YtdegcencbbbghaaRows
import Derived.Test.YtdegcencbbbghaaLawStoresNone
import Derived.Test.YtdegcencbbbghaaShape
import Derived.Test.YtdegcencbbbghaaLift
set_option linter.unusedVariables false
set_option linter.unusedSimpArgs false
namespace Go.Proofs.Ytdegcencbbbghaa.StoresNoneRowProof
open Go.RowKit Go.ChangeShapes Go.WideShapes

theorem own : ownKnob Try.prog.godebug = none := by kernel_rfl
theorem laidOut : laidOutB Try.prog = true := by kernel_rfl

set_option maxRecDepth 100000 in
theorem lifted (os : Os) (started : os.Started) (H : Type) (enc : TypeId × Value → H) :
    ReturnsInHanded {} Try.checked os 11 .any (Rows.storesNoneSpec.pre6 enc Try.prog Try.f11 Rows.storesNoneRow.domain false) (Rows.storesNoneSpec.post enc Try.prog Try.f11 false true false false) := by
  refine law_lift (C := Try.checked) started own 11 Try.f11 Rows.storesNoneSpec (by kernel_rfl) Try.func11 laidOut (by decide +kernel) rfl 4 rfl Try.underlying4 ?_
    (ChangeSpec.witness6 (enc := enc) (C := Try.checked) false ⟨#[], #[.string ByteArray.empty, .slice none 0 0, .agg #[.string ByteArray.empty, .string ByteArray.empty]], []⟩ 8 (by kernel_rfl) (by kernel_rfl) (by kernel_rfl) (by kernel_rfl)) ?_
  · intro ds hd
    match ds, hd with
    | [_, _, _], _ => rfl
  · intro W base args ds ps hval hA hsz
    rw [show Try.f11.params.toList = [9, 42, 37] from rfl] at hA hsz
    obtain ⟨v0, vs0, d0, ds0, p0, q0, hargs, rfl, rfl, h0, r0⟩ := trodAll_cons hA
    obtain ⟨v1, vs1, d1, ds1, p1, q1, rfl, rfl, rfl, h1, r1⟩ := trodAll_cons r0
    obtain ⟨v2, vs2, d2, ds2, p2, q2, rfl, rfl, rfl, h2, r2⟩ := trodAll_cons r1
    obtain ⟨rfl, rfl, rfl⟩ := trodAll_nil r2
    obtain rfl : args = #[v0, v1, v2] := by cases args; simp_all
    obtain ⟨s0, rfl⟩ := okWide_string Try.underlying9 (hval 0 _ _ rfl rfl)
    have ok0 := str_of (arg_holds hsz 0 rfl rfl 12 (by kernel_rfl) h0)
    obtain ⟨a1, n1, c1, rfl⟩ := okWide_slice Try.underlying42 (hval 1 _ _ rfl rfl)
    obtain ⟨xs1, rd1, len1, ok1⟩ := changes_of (arg_holds hsz 1 rfl rfl 12 (by kernel_rfl) h1)
    obtain ⟨x2, hcs2, ok2⟩ := span_of (arg_holds hsz 2 rfl rfl 12 (by kernel_rfl) h2)
    obtain rfl := agg_of_list (arg_agg Try.underlying37 (hval 2 _ _ rfl rfl)) hcs2
    exact storesNone_walk s0 _ _ _ xs1 x2 W rd1 len1

theorem over : Rows.storesNoneRow.holds Try.pinned (OpenSpec.ofChange Rows.storesNoneSpec) :=
  OpenClaim.holds_of_wide 11 Try.f11 rfl rfl rfl rfl rfl rfl rfl ⟨rfl, rfl, rfl, rfl, rfl⟩ rfl rfl rfl rfl rfl (by kernel_rfl) Try.func11 (by kernel_rfl)
    (of_decide_eq_true (by kernel_rfl)) (by unfold Func.isWrapper; first | (rw [if_pos (by decide +kernel)]; kernel_rfl) | (rw [if_neg (by decide +kernel)]; exact ⟨rfl, rfl⟩))
    (fun os started H enc _ => lifted os started H enc)

end Go.Proofs.Ytdegcencbbbghaa.StoresNoneRowProof
namespace Go.Proofs.Ytdegcencbbbghaa
/-- The row. -/
theorem storesNone_holds : Rows.StoresNoneSaid := StoresNoneRowProof.over
#print axioms storesNone_holds
end Go.Proofs.Ytdegcencbbbghaa
