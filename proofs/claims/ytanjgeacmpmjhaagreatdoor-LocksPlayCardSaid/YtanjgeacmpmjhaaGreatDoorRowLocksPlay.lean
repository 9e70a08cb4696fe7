/-
  The law concordatlaw11.LocksPlay: whoever asks for which span, and is free, who is in the way, and what they have, is the reference's answer; answers are memory of their own. No condition beyond the listed tables of the library's, which the card ties.
-/
import Derived.Test.YtanjgeacmpmjhaaGreatDoorRows
import Derived.Test.YtanjgeacmpmjhaaGreatDoorCards
import Derived.Test.YtanjgeacmpmjhaaGreatDoorTie
import Derived.Test.YtanjgeacmpmjhaaGreatDoorLawLocksPlay
import Derived.Test.YtanjgeacmpmjhaaGreatDoorShape
import Derived.Test.YtanjgeacmpmjhaaGreatDoorMgLocksPlay2
import Derived.SevenTiedAt
set_option linter.unusedVariables false
set_option linter.unusedSimpArgs false
namespace Go.Proofs.YtanjgeacmpmjhaaGreatDoor.LocksPlayRowProof
open Go.RowKit Go.ChangeShapes Go.WideShapes Go.ChangeAt

theorem own : ownKnob Tryz.prog.godebug = none := by kernel_rfl
theorem laidOut : laidOutB Tryz.prog = true := by kernel_rfl

/-- What the condition gives: the library's table of powers of ten. -/
theorem tab10 {W : World} (h : laidMetH Tryz.prog Rows.locksPlayRow.laid W) : Tab10 W := by
  rw [MakeChecks.laidMetH_plain _ _ _ (by kernel_rfl)] at h
  exact Lib.tabIs_of_head (t := 319) (e := 274) (n := 20) (show Tryz.prog.globalNamed "internal/strconv.uint64pow10" = some 0 by kernel_rfl) (by kernel_rfl) (by kernel_rfl) (by kernel_rfl) (by kernel_rfl) (by kernel_rfl) h.tail.tail

/-- The door's own heap meets the condition. -/
theorem door_met (os : Os) (args : Array Value) : laidMetH Tryz.prog Rows.locksPlayRow.laid ((World.doorLaid Tryz.prog 24 os).forCall (fun _ _ => 0) ⟨#[], args, []⟩).memory :=
  laidMetH_of_parts3 (fuel := 8) (laidMet_of_run' 8 (by kernel_rfl) (by kernel_rfl)) (by kernel_rfl) (by kernel_rfl)

set_option maxRecDepth 100000 in
theorem lifted (os : Os) (started : os.Started) (H : Type) (enc : TypeId × Value → H) :
    ReturnsInHanded {} Tryz.checked os 5 .any (fun w args => (Rows.locksPlaySpec.pre enc Tryz.prog Tryz.f5 [] false w args ∧ laidMetH Tryz.prog Rows.locksPlayRow.laid w) ∧ sizedMet enc Tryz.prog Tryz.f5 (OpenSpec.ofChange Rows.locksPlaySpec) false w args) (Rows.locksPlaySpec.post enc Tryz.prog Tryz.f5 false true false false) := by
  refine law_liftL (C := Tryz.checked) started own 5 Tryz.f5 Rows.locksPlaySpec Rows.locksPlayRow.laid (by kernel_rfl) Tryz.func5 laidOut (by decide +kernel) rfl 4 rfl Tryz.underlying4 ?_
    (ChangeSpec.witness_shaped (enc := enc) (C := Tryz.checked) (os := os) (X := fun w _ => laidMetH Tryz.prog Rows.locksPlayRow.laid w) false (World.doorLaid Tryz.prog 24 os) #[.slice none 0 0] 8 rfl (World.shaped_of_RefB (by kernel_rfl) (by kernel_rfl)) (by kernel_rfl) (by kernel_rfl) (by kernel_rfl) (door_met os _)) ?_
  · intro ds hd
    match ds, hd with
    | [_], _ => rfl
  · intro W base args ds ps hval hA hsz hL
    rw [show Tryz.f5.params.toList = [81] from rfl] at hA hsz
    obtain ⟨v0, vs0, d0, ds0, p0, q0, hargs, rfl, rfl, h0, r0⟩ := trodAll_cons hA
    obtain ⟨rfl, rfl, rfl⟩ := trodAll_nil r0
    obtain rfl : args = #[v0] := by cases args; simp_all
    obtain ⟨a0, n0, c0, rfl⟩ := okWide_slice Tryz.underlying81 (hval 0 _ _ rfl rfl)
    obtain ⟨xs0, rd0, len0, ok0⟩ := lacts_of (arg_holds hsz 0 rfl rfl 12 (by kernel_rfl) h0)
    exact locksPlay_walk _ xs0 W rd0 ok0 (tab10 hL)

theorem over : Rows.locksPlayRow.holds Tryz.pinned (OpenSpec.ofChange Rows.locksPlaySpec) :=
  OpenClaim.holds_of_wide 5 Tryz.f5 rfl rfl rfl rfl rfl rfl rfl ⟨rfl, rfl, rfl, rfl, rfl⟩ rfl rfl rfl rfl rfl (by kernel_rfl) Tryz.func5 (by kernel_rfl)
    (of_decide_eq_true (by kernel_rfl)) (by unfold Func.isWrapper; first | (rw [if_pos (by decide +kernel)]; kernel_rfl) | (rw [if_neg (by decide +kernel)]; exact ⟨rfl, rfl⟩))
    (fun os started H enc _ => lifted os started H enc)

/-- The card: what the row lists is tied to the program's text. -/
theorem card : Rows.LocksPlayCardSaid :=
  Claim7.holds_tied_plain_at .later [] _ true _ false over (fun _ h => by cases h) (by kernel_rfl) (fun _ h => by cases h) locksPlay_row_tie rfl ⟨rfl, rfl⟩ (by kernel_rfl) rfl
    (fun f fn hf hfn => by
      obtain rfl : f = 5 := (Option.some.inj ((show Tryz.prog.funcNamed "concordat/concordatlaw11.LocksPlay" = some 5 by kernel_rfl).symm.trans hf)).symm
      obtain rfl : fn = Tryz.f5 := (Option.some.inj (Tryz.func5.symm.trans hfn)).symm
      exact ⟨by kernel_rfl, fun j t ht => by
        rw [show Tryz.f5.params = #[81] from rfl] at ht
        have hm : t ∈ [81] := by simpa using Array.mem_of_getElem? ht
        have hall : ([81].all fun u => !Tryz.prog.wantsStandIn u) = true := by kernel_rfl
        exact (show Tryz.prog.wantsStandIn t = false by simpa using List.all_eq_true.1 hall t hm)⟩)
    (by kernel_rfl)

end Go.Proofs.YtanjgeacmpmjhaaGreatDoor.LocksPlayRowProof
namespace Go.Proofs.YtanjgeacmpmjhaaGreatDoor
/-- The card. -/
theorem locksPlay_holds : Rows.LocksPlayCardSaid := LocksPlayRowProof.card
#print axioms locksPlay_holds
end Go.Proofs.YtanjgeacmpmjhaaGreatDoor
