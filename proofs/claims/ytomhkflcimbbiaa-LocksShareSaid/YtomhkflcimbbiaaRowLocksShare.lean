/-
  The law concordatlaw11.LocksShare: of those that all ask with others each one gets all that they ask for; of spans that do not meet each one gets theirs, alone too; what they have is told in the order in which they asked, each once. No condition.
-/
import Derived.Test.YtomhkflcimbbiaaRows
import Derived.Test.YtomhkflcimbbiaaLawLocksShare
import Derived.Test.YtomhkflcimbbiaaShape
import Derived.Test.YtomhkflcimbbiaaLift
set_option linter.unusedVariables false
set_option linter.unusedSimpArgs false
namespace Go.Proofs.Ytomhkflcimbbiaa.LocksShareRowProof
open Go.RowKit Go.ChangeShapes Go.WideShapes

theorem own : ownKnob Try.prog.godebug = none := by kernel_rfl
theorem laidOut : laidOutB Try.prog = true := by kernel_rfl

set_option maxRecDepth 100000 in
theorem lifted (os : Os) (started : os.Started) (H : Type) (enc : TypeId × Value → H) :
    ReturnsInHanded {} Try.checked os 10 .any (Rows.locksShareSpec.pre6 enc Try.prog Try.f10 Rows.locksShareRow.domain false) (Rows.locksShareSpec.post enc Try.prog Try.f10 false true false false) := by
  refine law_lift (C := Try.checked) started own 10 Try.f10 Rows.locksShareSpec (by kernel_rfl) Try.func10 laidOut (by decide +kernel) rfl 4 rfl Try.underlying4 ?_
    (ChangeSpec.witness6 (enc := enc) (C := Try.checked) false ⟨#[], #[.slice none 0 0, .slice none 0 0], []⟩ 8 (by kernel_rfl) (by kernel_rfl) (by kernel_rfl) (by kernel_rfl)) ?_
  · intro ds hd
    match ds, hd with
    | [_, _], _ => rfl
  · intro W base args ds ps hval hA hsz
    rw [show Try.f10.params.toList = [58, 36] from rfl] at hA hsz
    obtain ⟨v0, vs0, d0, ds0, p0, q0, hargs, rfl, rfl, h0, r0⟩ := trodAll_cons hA
    obtain ⟨v1, vs1, d1, ds1, p1, q1, rfl, rfl, rfl, h1, r1⟩ := trodAll_cons r0
    obtain ⟨rfl, rfl, rfl⟩ := trodAll_nil r1
    obtain rfl : args = #[v0, v1] := by cases args; simp_all
    obtain ⟨a0, n0, c0, rfl⟩ := okWide_slice Try.underlying58 (hval 0 _ _ rfl rfl)
    obtain ⟨xs0, rd0, len0, ok0⟩ := u8vs_of (arg_holds hsz 0 rfl rfl 12 (by kernel_rfl) h0)
    obtain ⟨a1, n1, c1, rfl⟩ := okWide_slice Try.underlying36 (hval 1 _ _ rfl rfl)
    obtain ⟨xs1, rd1, len1, ok1⟩ := spans_of (arg_holds hsz 1 rfl rfl 12 (by kernel_rfl) h1)
    exact locksShare_walk _ _ xs0 xs1 W rd0 ok0 rd1 len1 ok1

theorem over : Rows.locksShareRow.holds Try.pinned (OpenSpec.ofChange Rows.locksShareSpec) :=
  OpenClaim.holds_of_wide 10 Try.f10 rfl rfl rfl rfl rfl rfl rfl ⟨rfl, rfl, rfl, rfl, rfl⟩ rfl rfl rfl rfl rfl (by kernel_rfl) Try.func10 (by kernel_rfl)
    (of_decide_eq_true (by kernel_rfl)) (by unfold Func.isWrapper; first | (rw [if_pos (by decide +kernel)]; kernel_rfl) | (rw [if_neg (by decide +kernel)]; exact ⟨rfl, rfl⟩))
    (fun os started H enc _ => lifted os started H enc)

end Go.Proofs.Ytomhkflcimbbiaa.LocksShareRowProof
namespace Go.Proofs.Ytomhkflcimbbiaa
/-- The row. -/
theorem locksShare_holds : Rows.LocksShareSaid := LocksShareRowProof.over
#print axioms locksShare_holds
end Go.Proofs.Ytomhkflcimbbiaa
