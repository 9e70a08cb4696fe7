/-
  The law concordatlaw11.LocksFree: once all that are in the way of somebody are free, they get it; what they are told they have is it, and what they had. No condition.
-/
import Derived.Test.YtomhkflcimbbiaaRows
import Derived.Test.YtomhkflcimbbiaaLawLocksFree
import Derived.Test.YtomhkflcimbbiaaShape
import Derived.Test.YtomhkflcimbbiaaLift
set_option linter.unusedVariables false
set_option linter.unusedSimpArgs false
namespace Go.Proofs.Ytomhkflcimbbiaa.LocksFreeRowProof
open Go.RowKit Go.ChangeShapes Go.WideShapes

theorem own : ownKnob Try.prog.godebug = none := by kernel_rfl
theorem laidOut : laidOutB Try.prog = true := by kernel_rfl

set_option maxRecDepth 100000 in
theorem lifted (os : Os) (started : os.Started) (H : Type) (enc : TypeId × Value → H) :
    ReturnsInHanded {} Try.checked os 5 .any (Rows.locksFreeSpec.pre6 enc Try.prog Try.f5 Rows.locksFreeRow.domain false) (Rows.locksFreeSpec.post enc Try.prog Try.f5 false true false false) := by
  refine law_lift (C := Try.checked) started own 5 Try.f5 Rows.locksFreeSpec (by kernel_rfl) Try.func5 laidOut (by decide +kernel) rfl 4 rfl Try.underlying4 ?_
    (ChangeSpec.witness6 (enc := enc) (C := Try.checked) false ⟨#[], #[.slice none 0 0, .agg #[.int .u8 0, .int .u32 0, .string ByteArray.empty, .string ByteArray.empty, .bool false]], []⟩ 8 (by kernel_rfl) (by kernel_rfl) (by kernel_rfl) (by kernel_rfl)) ?_
  · intro ds hd
    match ds, hd with
    | [_, _], _ => rfl
  · intro W base args ds ps hval hA hsz
    rw [show Try.f5.params.toList = [39, 45] from rfl] at hA hsz
    obtain ⟨v0, vs0, d0, ds0, p0, q0, hargs, rfl, rfl, h0, r0⟩ := trodAll_cons hA
    obtain ⟨v1, vs1, d1, ds1, p1, q1, rfl, rfl, rfl, h1, r1⟩ := trodAll_cons r0
    obtain ⟨rfl, rfl, rfl⟩ := trodAll_nil r1
    obtain rfl : args = #[v0, v1] := by cases args; simp_all
    obtain ⟨a0, n0, c0, rfl⟩ := okWide_slice Try.underlying39 (hval 0 _ _ rfl rfl)
    obtain ⟨xs0, rd0, len0, ok0⟩ := lacts_of (arg_holds hsz 0 rfl rfl 12 (by kernel_rfl) h0)
    obtain ⟨x1, hcs1, ok1⟩ := lact_of (arg_holds hsz 1 rfl rfl 12 (by kernel_rfl) h1)
    obtain rfl := agg_of_list (arg_agg Try.underlying45 (hval 1 _ _ rfl rfl)) hcs1
    exact locksFree_walk _ xs0 x1 W rd0 ok0 ok1

theorem over : Rows.locksFreeRow.holds Try.pinned (OpenSpec.ofChange Rows.locksFreeSpec) :=
  OpenClaim.holds_of_wide 5 Try.f5 rfl rfl rfl rfl rfl rfl rfl ⟨rfl, rfl, rfl, rfl, rfl⟩ rfl rfl rfl rfl rfl (by kernel_rfl) Try.func5 (by kernel_rfl)
    (of_decide_eq_true (by kernel_rfl)) (by unfold Func.isWrapper; first | (rw [if_pos (by decide +kernel)]; kernel_rfl) | (rw [if_neg (by decide +kernel)]; exact ⟨rfl, rfl⟩))
    (fun os started H enc _ => lifted os started H enc)

end Go.Proofs.Ytomhkflcimbbiaa.LocksFreeRowProof
namespace Go.Proofs.Ytomhkflcimbbiaa
/-- The row. -/
theorem locksFree_holds : Rows.LocksFreeSaid := LocksFreeRowProof.over
#print axioms locksFree_holds
end Go.Proofs.Ytomhkflcimbbiaa
