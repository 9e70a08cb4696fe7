/-
  The law concordatlaw13.StoresOrder: rows of unlike keys make one map, in whatever order they are put; those of one key as it is put last. No condition.
-/
import Derived.Test.YtdegcencbbbghaaRows
import Derived.Test.YtdegcencbbbghaaLawStoresOrder
import Derived.Test.YtdegcencbbbghaaShape
import Derived.Test.YtdegcencbbbghaaLift
set_option linter.unusedVariables false
set_option linter.unusedSimpArgs false
namespace Go.Proofs.Ytdegcencbbbghaa.StoresOrderRowProof
open Go.RowKit Go.ChangeShapes Go.WideShapes

theorem own : ownKnob Try.prog.godebug = none := by kernel_rfl
theorem laidOut : laidOutB Try.prog = true := by kernel_rfl

set_option maxRecDepth 100000 in
theorem lifted (os : Os) (started : os.Started) (H : Type) (enc : TypeId × Value → H) :
    ReturnsInHanded {} Try.checked os 7 .any (Rows.storesOrderSpec.pre6 enc Try.prog Try.f7 Rows.storesOrderRow.domain false) (Rows.storesOrderSpec.post enc Try.prog Try.f7 false true false false) := by
  refine law_lift (C := Try.checked) started own 7 Try.f7 Rows.storesOrderSpec (by kernel_rfl) Try.func7 laidOut (by decide +kernel) rfl 4 rfl Try.underlying4 ?_
    (ChangeSpec.witness6 (enc := enc) (C := Try.checked) false ⟨#[], #[.slice none 0 0, .int .u8 0], []⟩ 8 (by kernel_rfl) (by kernel_rfl) (by kernel_rfl) (by kernel_rfl)) ?_
  · intro ds hd
    match ds, hd with
    | [_, _], _ => rfl
  · intro W base args ds ps hval hA hsz
    rw [show Try.f7.params.toList = [22, 5] from rfl] at hA hsz
    obtain ⟨v0, vs0, d0, ds0, p0, q0, hargs, rfl, rfl, h0, r0⟩ := trodAll_cons hA
    obtain ⟨v1, vs1, d1, ds1, p1, q1, rfl, rfl, rfl, h1, r1⟩ := trodAll_cons r0
    obtain ⟨rfl, rfl, rfl⟩ := trodAll_nil r1
    obtain rfl : args = #[v0, v1] := by cases args; simp_all
    obtain ⟨a0, n0, c0, rfl⟩ := okWide_slice Try.underlying22 (hval 0 _ _ rfl rfl)
    obtain ⟨xs0, rd0, len0, ok0⟩ := rows_of (arg_holds hsz 0 rfl rfl 12 (by kernel_rfl) h0)
    obtain ⟨m1, rfl⟩ := okWide_int Try.underlying5 (hval 1 _ _ rfl rfl)
    have ok1 := int_of (k := .u8) (arg_holds hsz 1 rfl rfl 12 (by kernel_rfl) h1)
    exact storesOrder_walk _ xs0 m1 W rd0 len0 ok0 ok1

theorem over : Rows.storesOrderRow.holds Try.pinned (OpenSpec.ofChange Rows.storesOrderSpec) :=
  OpenClaim.holds_of_wide 7 Try.f7 rfl rfl rfl rfl rfl rfl rfl ⟨rfl, rfl, rfl, rfl, rfl⟩ rfl rfl rfl rfl rfl (by kernel_rfl) Try.func7 (by kernel_rfl)
    (of_decide_eq_true (by kernel_rfl)) (by unfold Func.isWrapper; first | (rw [if_pos (by decide +kernel)]; kernel_rfl) | (rw [if_neg (by decide +kernel)]; exact ⟨rfl, rfl⟩))
    (fun os started H enc _ => lifted os started H enc)

end Go.Proofs.Ytdegcencbbbghaa.StoresOrderRowProof
namespace Go.Proofs.Ytdegcencbbbghaa
/-- The row. -/
theorem storesOrder_holds : Rows.StoresOrderSaid := StoresOrderRowProof.over
#print axioms storesOrder_holds
end Go.Proofs.Ytdegcencbbbghaa
