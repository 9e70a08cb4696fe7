/-
  The law concordatlaw14.VersionsPlay: whatever is changed and trimmed, what rows were, behind any commit, and whether something changed since, is the reference's answer, in new memory; nothing handed in is kept or changed. No condition beyond the listed tables of the library's, which the card ties.
-/
import Derived.Test.YtanjgeacmpmjhaaGreatDoorRows
import Derived.Test.YtanjgeacmpmjhaaGreatDoorCards
import Derived.Test.YtanjgeacmpmjhaaGreatDoorTie
import Derived.Test.YtanjgeacmpmjhaaGreatDoorLawVersionsPlay
import Derived.Test.YtanjgeacmpmjhaaGreatDoorShape
import Derived.Test.YtanjgeacmpmjhaaGreatDoorMgVersionsPlay2
import Derived.SevenTiedAt
import Derived.Test.YtanjgeacmpmjhaaGreatDoorMgVersionsPlay10
set_option linter.unusedVariables false
set_option linter.unusedSimpArgs false
namespace Go.Proofs.YtanjgeacmpmjhaaGreatDoor.VersionsPlayRowProof
open Go.RowKit Go.ChangeShapes Go.WideShapes Go.ChangeAt

theorem own : ownKnob Tryz.prog.godebug = none := by kernel_rfl
theorem laidOut : laidOutB Tryz.prog = true := by kernel_rfl

/-- What the condition gives: the library's table of powers of ten. -/
theorem tab10 {W : World} (h : laidMetH Tryz.prog Rows.versionsPlayRow.laid W) : Tab10 W := by
  rw [MakeChecks.laidMetH_plain _ _ _ (by kernel_rfl)] at h
  exact Lib.tabIs_of_head (t := 319) (e := 274) (n := 20) (show Tryz.prog.globalNamed "internal/strconv.uint64pow10" = some 0 by kernel_rfl) (by kernel_rfl) (by kernel_rfl) (by kernel_rfl) (by kernel_rfl) (by kernel_rfl) h.tail.tail

/-- The door's own heap meets the condition. -/
theorem door_met (os : Os) (args : Array Value) : laidMetH Tryz.prog Rows.versionsPlayRow.laid ((World.doorLaid Tryz.prog 24 os).forCall (fun _ _ => 0) ⟨#[], args, []⟩).memory :=
  laidMetH_of_parts3 (fuel := 8) (laidMet_of_run' 8 (by kernel_rfl) (by kernel_rfl)) (by kernel_rfl) (by kernel_rfl)

set_option maxRecDepth 100000 in
theorem lifted (os : Os) (started : os.Started) (H : Type) (enc : TypeId × Value → H) :
    ReturnsInHanded {} Tryz.checked os 4 .any (fun w args => (Rows.versionsPlaySpec.pre enc Tryz.prog Tryz.f4 [] false w args ∧ laidMetH Tryz.prog Rows.versionsPlayRow.laid w) ∧ sizedMet enc Tryz.prog Tryz.f4 (OpenSpec.ofChange Rows.versionsPlaySpec) false w args) (Rows.versionsPlaySpec.post enc Tryz.prog Tryz.f4 false true false false) := by
  refine law_liftL (C := Tryz.checked) started own 4 Tryz.f4 Rows.versionsPlaySpec Rows.versionsPlayRow.laid (by kernel_rfl) Tryz.func4 laidOut (by decide +kernel) rfl 4 rfl Tryz.underlying4 ?_
    (ChangeSpec.witness_shaped (enc := enc) (C := Tryz.checked) (os := os) (X := fun w _ => laidMetH Tryz.prog Rows.versionsPlayRow.laid w) false (World.doorLaid Tryz.prog 24 os) #[.slice none 0 0, .agg #[.string ByteArray.empty, .string ByteArray.empty], .int .i64 0] 8 rfl (World.shaped_of_RefB (by kernel_rfl) (by kernel_rfl)) (by kernel_rfl) (by kernel_rfl) (by kernel_rfl) (door_met os _)) ?_
  · intro ds hd
    match ds, hd with
    | [_, _, _], _ => rfl
  · intro W base args ds ps hval hA hsz hL
    rw [show Tryz.f4.params.toList = [65, 47, 3] from rfl] at hA hsz
    obtain ⟨v0, vs0, d0, ds0, p0, q0, hargs, rfl, rfl, h0, r0⟩ := trodAll_cons hA
    obtain ⟨v1, vs1, d1, ds1, p1, q1, rfl, rfl, rfl, h1, r1⟩ := trodAll_cons r0
    obtain ⟨v2, vs2, d2, ds2, p2, q2, rfl, rfl, rfl, h2, r2⟩ := trodAll_cons r1
    obtain ⟨rfl, rfl, rfl⟩ := trodAll_nil r2
    obtain rfl : args = #[v0, v1, v2] := by cases args; simp_all
    obtain ⟨a0, n0, c0, rfl⟩ := okWide_slice Tryz.underlying65 (hval 0 _ _ rfl rfl)
    obtain ⟨xs0, rd0, len0, ok0⟩ := vacts_of (bytes := 40) (arg_holds hsz 0 rfl rfl 12 (by kernel_rfl) h0)
    obtain ⟨x1, hcs1, ok1⟩ := span_of (arg_holds hsz 1 rfl rfl 12 (by kernel_rfl) h1)
    obtain rfl := agg_of_list (arg_agg Tryz.underlying47 (hval 1 _ _ rfl rfl)) hcs1
    obtain ⟨m2, rfl⟩ := okWide_int Tryz.underlying3 (hval 2 _ _ rfl rfl)
    have ok2 := int_of (k := .i64) (arg_holds hsz 2 rfl rfl 12 (by kernel_rfl) h2)
    exact versionsPlay_walk _ xs0 x1 m2 W rd0 (by omega) ok0 ok1 (tab10 hL)

theorem over : Rows.versionsPlayRow.holds Tryz.pinned (OpenSpec.ofChange Rows.versionsPlaySpec) :=
  OpenClaim.holds_of_wide 4 Tryz.f4 rfl rfl rfl rfl rfl rfl rfl ⟨rfl, rfl, rfl, rfl, rfl⟩ rfl rfl rfl rfl rfl (by kernel_rfl) Tryz.func4 (by kernel_rfl)
    (of_decide_eq_true (by kernel_rfl)) (by unfold Func.isWrapper; first | (rw [if_pos (by decide +kernel)]; kernel_rfl) | (rw [if_neg (by decide +kernel)]; exact ⟨rfl, rfl⟩))
    (fun os started H enc _ => lifted os started H enc)

/-- The card: what the row lists is tied to the program's text. -/
theorem card : Rows.VersionsPlayCardSaid :=
  Claim7.holds_tied_plain_at .later [] _ true _ false over (fun _ h => by cases h) (by kernel_rfl) (fun _ h => by cases h) versionsPlay_row_tie rfl ⟨rfl, rfl⟩ (by kernel_rfl) rfl
    (fun f fn hf hfn => by
      obtain rfl : f = 4 := (Option.some.inj ((show Tryz.prog.funcNamed "concordat/concordatlaw14.VersionsPlay" = some 4 by kernel_rfl).symm.trans hf)).symm
      obtain rfl : fn = Tryz.f4 := (Option.some.inj (Tryz.func4.symm.trans hfn)).symm
      exact ⟨by kernel_rfl, fun j t ht => by
        rw [show Tryz.f4.params = #[65, 47, 3] from rfl] at ht
        have hm : t ∈ [65, 47, 3] := by simpa using Array.mem_of_getElem? ht
        have hall : ([65, 47, 3].all fun u => !Tryz.prog.wantsStandIn u) = true := by kernel_rfl
        exact (show Tryz.prog.wantsStandIn t = false by simpa using List.all_eq_true.1 hall t hm)⟩)
    (by kernel_rfl)

end Go.Proofs.YtanjgeacmpmjhaaGreatDoor.VersionsPlayRowProof
namespace Go.Proofs.YtanjgeacmpmjhaaGreatDoor
/-- The card. -/
theorem versionsPlay_holds : Rows.VersionsPlayCardSaid := VersionsPlayRowProof.card
#print axioms versionsPlay_holds
end Go.Proofs.YtanjgeacmpmjhaaGreatDoor
