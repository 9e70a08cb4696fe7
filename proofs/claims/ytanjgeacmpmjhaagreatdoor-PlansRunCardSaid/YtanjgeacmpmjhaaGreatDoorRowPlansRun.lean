/-
  The law concordatlaw19.PlansRun: what any ops tell, and leave, on any rows, and whether two lists of results tell the same, is the reference's answer, in new memory; nothing is changed. No condition beyond the listed tables of the library's, which the card ties.
-/
import Derived.Test.YtanjgeacmpmjhaaGreatDoorRows
import Derived.Test.YtanjgeacmpmjhaaGreatDoorCards
import Derived.Test.YtanjgeacmpmjhaaGreatDoorTie
import Derived.Test.YtanjgeacmpmjhaaGreatDoorLawPlansRun
import Derived.Test.YtanjgeacmpmjhaaGreatDoorShape
import Derived.Test.YtanjgeacmpmjhaaGreatDoorMgPlansRun2
import Derived.SevenTiedAt
import Derived.Test.YtanjgeacmpmjhaaGreatDoorRes
set_option linter.unusedVariables false
set_option linter.unusedSimpArgs false
namespace Go.Proofs.YtanjgeacmpmjhaaGreatDoor.PlansRunRowProof
open Go.RowKit Go.ChangeShapes Go.WideShapes Go.ChangeAt

theorem own : ownKnob Tryz.prog.godebug = none := by kernel_rfl
theorem laidOut : laidOutB Tryz.prog = true := by kernel_rfl

/-- What the condition gives: the library's table of powers of ten. -/
theorem tab10 {W : World} (h : laidMetH Tryz.prog Rows.plansRunRow.laid W) : Tab10 W := by
  rw [MakeChecks.laidMetH_plain _ _ _ (by kernel_rfl)] at h
  exact Lib.tabIs_of_head (t := 319) (e := 274) (n := 20) (show Tryz.prog.globalNamed "internal/strconv.uint64pow10" = some 0 by kernel_rfl) (by kernel_rfl) (by kernel_rfl) (by kernel_rfl) (by kernel_rfl) (by kernel_rfl) h.tail.tail

/-- The door's own heap meets the condition. -/
theorem door_met (os : Os) (args : Array Value) : laidMetH Tryz.prog Rows.plansRunRow.laid ((World.doorLaid Tryz.prog 24 os).forCall (fun _ _ => 0) ⟨#[], args, []⟩).memory :=
  laidMetH_of_parts3 (fuel := 8) (laidMet_of_run' 8 (by kernel_rfl) (by kernel_rfl)) (by kernel_rfl) (by kernel_rfl)

set_option maxRecDepth 100000 in
theorem lifted (os : Os) (started : os.Started) (H : Type) (enc : TypeId × Value → H) :
    ReturnsInHanded {} Tryz.checked os 7 .any (fun w args => (Rows.plansRunSpec.pre enc Tryz.prog Tryz.f7 [] false w args ∧ laidMetH Tryz.prog Rows.plansRunRow.laid w) ∧ sizedMet enc Tryz.prog Tryz.f7 (OpenSpec.ofChange Rows.plansRunSpec) false w args) (Rows.plansRunSpec.post enc Tryz.prog Tryz.f7 false true false false) := by
  refine law_liftL (C := Tryz.checked) started own 7 Tryz.f7 Rows.plansRunSpec Rows.plansRunRow.laid (by kernel_rfl) Tryz.func7 laidOut (by decide +kernel) rfl 4 rfl Tryz.underlying4 ?_
    (ChangeSpec.witness_shaped (enc := enc) (C := Tryz.checked) (os := os) (X := fun w _ => laidMetH Tryz.prog Rows.plansRunRow.laid w) false (World.doorLaid Tryz.prog 24 os) #[.slice none 0 0, .slice none 0 0, .slice none 0 0] 8 rfl (World.shaped_of_RefB (by kernel_rfl) (by kernel_rfl)) (by kernel_rfl) (by kernel_rfl) (by kernel_rfl) (door_met os _)) ?_
  · intro ds hd
    match ds, hd with
    | [_, _, _], _ => rfl
  · intro W base args ds ps hval hA hsz hL
    rw [show Tryz.f7.params.toList = [56, 103, 112] from rfl] at hA hsz
    obtain ⟨v0, vs0, d0, ds0, p0, q0, hargs, rfl, rfl, h0, r0⟩ := trodAll_cons hA
    obtain ⟨v1, vs1, d1, ds1, p1, q1, rfl, rfl, rfl, h1, r1⟩ := trodAll_cons r0
    obtain ⟨v2, vs2, d2, ds2, p2, q2, rfl, rfl, rfl, h2, r2⟩ := trodAll_cons r1
    obtain ⟨rfl, rfl, rfl⟩ := trodAll_nil r2
    obtain rfl : args = #[v0, v1, v2] := by cases args; simp_all
    obtain ⟨a0, n0, c0, rfl⟩ := okWide_slice Tryz.underlying56 (hval 0 _ _ rfl rfl)
    obtain ⟨xs0, rd0, len0, ok0⟩ := rows_of (bytes := 24) (arg_holds hsz 0 rfl rfl 12 (by kernel_rfl) h0)
    obtain ⟨a1, n1, c1, rfl⟩ := okWide_slice Tryz.underlying103 (hval 1 _ _ rfl rfl)
    obtain ⟨xs1, rd1, len1, ok1⟩ := opns_of (bytes := 48) (arg_holds hsz 1 rfl rfl 12 (by kernel_rfl) h1)
    obtain ⟨a2, n2, c2, rfl⟩ := okWide_slice Tryz.underlying112 (hval 2 _ _ rfl rfl)
    obtain ⟨rs2, rd2, len2⟩ := resl_of (bytes := 24) (arg_holds hsz 2 rfl rfl 12 (by kernel_rfl) h2)
    exact plansRun_walk _ _ _ xs0 xs1 rs2 W rd0 rd1 rd2 ok0 ok1 (tab10 hL)

theorem over : Rows.plansRunRow.holds Tryz.pinned (OpenSpec.ofChange Rows.plansRunSpec) :=
  OpenClaim.holds_of_wide 7 Tryz.f7 rfl rfl rfl rfl rfl rfl rfl ⟨rfl, rfl, rfl, rfl, rfl⟩ rfl rfl rfl rfl rfl (by kernel_rfl) Tryz.func7 (by kernel_rfl)
    (of_decide_eq_true (by kernel_rfl)) (by unfold Func.isWrapper; first | (rw [if_pos (by decide +kernel)]; kernel_rfl) | (rw [if_neg (by decide +kernel)]; exact ⟨rfl, rfl⟩))
    (fun os started H enc _ => lifted os started H enc)

/-- The card: what the row lists is tied to the program's text. -/
theorem card : Rows.PlansRunCardSaid :=
  Claim7.holds_tied_plain_at .later [] _ true _ false over (fun _ h => by cases h) (by kernel_rfl) (fun _ h => by cases h) plansRun_row_tie rfl ⟨rfl, rfl⟩ (by kernel_rfl) rfl
    (fun f fn hf hfn => by
      obtain rfl : f = 7 := (Option.some.inj ((show Tryz.prog.funcNamed "concordat/concordatlaw19.PlansRun" = some 7 by kernel_rfl).symm.trans hf)).symm
      obtain rfl : fn = Tryz.f7 := (Option.some.inj (Tryz.func7.symm.trans hfn)).symm
      exact ⟨by kernel_rfl, fun j t ht => by
        rw [show Tryz.f7.params = #[56, 103, 112] from rfl] at ht
        have hm : t ∈ [56, 103, 112] := by simpa using Array.mem_of_getElem? ht
        have hall : ([56, 103, 112].all fun u => !Tryz.prog.wantsStandIn u) = true := by kernel_rfl
        exact (show Tryz.prog.wantsStandIn t = false by simpa using List.all_eq_true.1 hall t hm)⟩)
    (by kernel_rfl)

end Go.Proofs.YtanjgeacmpmjhaaGreatDoor.PlansRunRowProof
namespace Go.Proofs.YtanjgeacmpmjhaaGreatDoor
/-- The card. -/
theorem plansRun_holds : Rows.PlansRunCardSaid := PlansRunRowProof.card
#print axioms plansRun_holds
end Go.Proofs.YtanjgeacmpmjhaaGreatDoor
