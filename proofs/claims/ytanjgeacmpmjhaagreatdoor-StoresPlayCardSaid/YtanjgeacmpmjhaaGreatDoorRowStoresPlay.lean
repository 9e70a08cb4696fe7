/-
  The law concordatlaw13.StoresPlay: whatever is done with a map of rows, each answer, and all rows, are the reference's; what is handed in stays as it was, and answers are memory of their own. No condition beyond the listed tables of the library's, which the card ties.
-/
import Derived.Test.YtanjgeacmpmjhaaGreatDoorRows
import Derived.Test.YtanjgeacmpmjhaaGreatDoorCards
import Derived.Test.YtanjgeacmpmjhaaGreatDoorTie
import Derived.Test.YtanjgeacmpmjhaaGreatDoorLawStoresPlay
import Derived.Test.YtanjgeacmpmjhaaGreatDoorShape
import Derived.Test.YtanjgeacmpmjhaaGreatDoorLiftL
import Derived.SevenTiedAt
set_option linter.unusedVariables false
set_option linter.unusedSimpArgs false
namespace Go.Proofs.YtanjgeacmpmjhaaGreatDoor.StoresPlayRowProof
open Go.RowKit Go.ChangeShapes Go.WideShapes Go.ChangeAt

theorem own : ownKnob Tryz.prog.godebug = none := by kernel_rfl
theorem laidOut : laidOutB Tryz.prog = true := by kernel_rfl

/-- What the condition gives: the library's table of powers of ten. -/
theorem tab10 {W : World} (h : laidMetH Tryz.prog Rows.storesPlayRow.laid W) : Tab10 W := by
  rw [MakeChecks.laidMetH_plain _ _ _ (by kernel_rfl)] at h
  exact Lib.tabIs_of_head (t := 319) (e := 274) (n := 20) (show Tryz.prog.globalNamed "internal/strconv.uint64pow10" = some 0 by kernel_rfl) (by kernel_rfl) (by kernel_rfl) (by kernel_rfl) (by kernel_rfl) (by kernel_rfl) h.tail.tail

/-- The door's own heap meets the condition. -/
theorem door_met (os : Os) (args : Array Value) : laidMetH Tryz.prog Rows.storesPlayRow.laid ((World.doorLaid Tryz.prog 24 os).forCall (fun _ _ => 0) ⟨#[], args, []⟩).memory :=
  laidMetH_of_parts3 (fuel := 8) (laidMet_of_run' 8 (by kernel_rfl) (by kernel_rfl)) (by kernel_rfl) (by kernel_rfl)

set_option maxRecDepth 100000 in
theorem lifted (os : Os) (started : os.Started) (H : Type) (enc : TypeId × Value → H) :
    ReturnsInHanded {} Tryz.checked os 3 .any (fun w args => (Rows.storesPlaySpec.pre enc Tryz.prog Tryz.f3 [] false w args ∧ laidMetH Tryz.prog Rows.storesPlayRow.laid w) ∧ sizedMet enc Tryz.prog Tryz.f3 (OpenSpec.ofChange Rows.storesPlaySpec) false w args) (Rows.storesPlaySpec.post enc Tryz.prog Tryz.f3 false true false false) := by
  refine law_liftL (C := Tryz.checked) started own 3 Tryz.f3 Rows.storesPlaySpec Rows.storesPlayRow.laid (by kernel_rfl) Tryz.func3 laidOut (by decide +kernel) rfl 4 rfl Tryz.underlying4 ?_
    (ChangeSpec.witness_shaped (enc := enc) (C := Tryz.checked) (os := os) (X := fun w _ => laidMetH Tryz.prog Rows.storesPlayRow.laid w) false (World.doorLaid Tryz.prog 24 os) #[.slice none 0 0] 8 rfl (World.shaped_of_RefB (by kernel_rfl) (by kernel_rfl)) (by kernel_rfl) (by kernel_rfl) (by kernel_rfl) (door_met os _)) ?_
  · intro ds hd
    match ds, hd with
    | [_], _ => rfl
  · intro W base args ds ps hval hA hsz hL
    rw [show Tryz.f3.params.toList = [22] from rfl] at hA hsz
    obtain ⟨v0, vs0, d0, ds0, p0, q0, hargs, rfl, rfl, h0, r0⟩ := trodAll_cons hA
    obtain ⟨rfl, rfl, rfl⟩ := trodAll_nil r0
    obtain rfl : args = #[v0] := by cases args; simp_all
    obtain ⟨a0, n0, c0, rfl⟩ := okWide_slice Tryz.underlying22 (hval 0 _ _ rfl rfl)
    obtain ⟨xs0, rd0, len0, ok0⟩ := sacts_of (bytes := 96) (arg_holds hsz 0 rfl rfl 12 (by kernel_rfl) h0)
    exact storesPlay_walk _ xs0 W rd0 ok0 (by omega) (tab10 hL)

theorem over : Rows.storesPlayRow.holds Tryz.pinned (OpenSpec.ofChange Rows.storesPlaySpec) :=
  OpenClaim.holds_of_wide 3 Tryz.f3 rfl rfl rfl rfl rfl rfl rfl ⟨rfl, rfl, rfl, rfl, rfl⟩ rfl rfl rfl rfl rfl (by kernel_rfl) Tryz.func3 (by kernel_rfl)
    (of_decide_eq_true (by kernel_rfl)) (by unfold Func.isWrapper; first | (rw [if_pos (by decide +kernel)]; kernel_rfl) | (rw [if_neg (by decide +kernel)]; exact ⟨rfl, rfl⟩))
    (fun os started H enc _ => lifted os started H enc)

/-- The card: what the row lists is tied to the program's text. -/
theorem card : Rows.StoresPlayCardSaid :=
  Claim7.holds_tied_plain_at .later [] _ true _ false over (fun _ h => by cases h) (by kernel_rfl) (fun _ h => by cases h) storesPlay_row_tie rfl ⟨rfl, rfl⟩ (by kernel_rfl) rfl
    (fun f fn hf hfn => by
      obtain rfl : f = 3 := (Option.some.inj ((show Tryz.prog.funcNamed "concordat/concordatlaw13.StoresPlay" = some 3 by kernel_rfl).symm.trans hf)).symm
      obtain rfl : fn = Tryz.f3 := (Option.some.inj (Tryz.func3.symm.trans hfn)).symm
      exact ⟨by kernel_rfl, fun j t ht => by
        rw [show Tryz.f3.params = #[22] from rfl] at ht
        have hm : t ∈ [22] := by simpa using Array.mem_of_getElem? ht
        have hall : ([22].all fun u => !Tryz.prog.wantsStandIn u) = true := by kernel_rfl
        exact (show Tryz.prog.wantsStandIn t = false by simpa using List.all_eq_true.1 hall t hm)⟩)
    (by kernel_rfl)

end Go.Proofs.YtanjgeacmpmjhaaGreatDoor.StoresPlayRowProof
namespace Go.Proofs.YtanjgeacmpmjhaaGreatDoor
/-- The card. -/
theorem storesPlay_holds : Rows.StoresPlayCardSaid := StoresPlayRowProof.card
#print axioms storesPlay_holds
end Go.Proofs.YtanjgeacmpmjhaaGreatDoor
