/-
  The law concordatlaw11.LocksApart: no two have spans that meet where one has it alone; who is in the way is told, and nobody else. No condition.
-/
import Derived.Test.YtomhkflcimbbiaaRows
import Derived.Test.YtomhkflcimbbiaaLawLocksApart
import Derived.Test.YtomhkflcimbbiaaShape
import Derived.Test.YtomhkflcimbbiaaLift
set_option linter.unusedVariables false
set_option linter.unusedSimpArgs false
namespace Go.Proofs.Ytomhkflcimbbiaa.LocksApartRowProof
open Go.RowKit Go.ChangeShapes Go.WideShapes

theorem own : ownKnob Try.prog.godebug = none := by kernel_rfl
theorem laidOut : laidOutB Try.prog = true := by kernel_rfl

set_option maxRecDepth 100000 in
theorem lifted (os : Os) (started : os.Started) (H : Type) (enc : TypeId × Value → H) :
    ReturnsInHanded {} Try.checked os 4 .any (Rows.locksApartSpec.pre6 enc Try.prog Try.f4 Rows.locksApartRow.domain false) (Rows.locksApartSpec.post enc Try.prog Try.f4 false true false false) := by
  refine law_lift (C := Try.checked) started own 4 Try.f4 Rows.locksApartSpec (by kernel_rfl) Try.func4 laidOut (by decide +kernel) rfl 4 rfl Try.underlying4 ?_
    (ChangeSpec.witness6 (enc := enc) (C := Try.checked) false ⟨#[], #[.slice none 0 0], []⟩ 8 (by kernel_rfl) (by kernel_rfl) (by kernel_rfl) (by kernel_rfl)) ?_
  · intro ds hd
    match ds, hd with
    | [_], _ => rfl
  · intro W base args ds ps hval hA hsz
    rw [show Try.f4.params.toList = [39] from rfl] at hA hsz
    obtain ⟨v0, vs0, d0, ds0, p0, q0, hargs, rfl, rfl, h0, r0⟩ := trodAll_cons hA
    obtain ⟨rfl, rfl, rfl⟩ := trodAll_nil r0
    obtain rfl : args = #[v0] := by cases args; simp_all
    obtain ⟨a0, n0, c0, rfl⟩ := okWide_slice Try.underlying39 (hval 0 _ _ rfl rfl)
    obtain ⟨xs0, rd0, len0, ok0⟩ := lacts_of (arg_holds hsz 0 rfl rfl 12 (by kernel_rfl) h0)
    exact locksApart_walk _ xs0 W rd0 ok0

theorem over : Rows.locksApartRow.holds Try.pinned (OpenSpec.ofChange Rows.locksApartSpec) :=
  OpenClaim.holds_of_wide 4 Try.f4 rfl rfl rfl rfl rfl rfl rfl ⟨rfl, rfl, rfl, rfl, rfl⟩ rfl rfl rfl rfl rfl (by kernel_rfl) Try.func4 (by kernel_rfl)
    (of_decide_eq_true (by kernel_rfl)) (by unfold Func.isWrapper; first | (rw [if_pos (by decide +kernel)]; kernel_rfl) | (rw [if_neg (by decide +kernel)]; exact ⟨rfl, rfl⟩))
    (fun os started H enc _ => lifted os started H enc)

end Go.Proofs.Ytomhkflcimbbiaa.LocksApartRowProof
namespace Go.Proofs.Ytomhkflcimbbiaa
/-- The row. -/
theorem locksApart_holds : Rows.LocksApartSaid := LocksApartRowProof.over
#print axioms locksApart_holds
end Go.Proofs.Ytomhkflcimbbiaa
