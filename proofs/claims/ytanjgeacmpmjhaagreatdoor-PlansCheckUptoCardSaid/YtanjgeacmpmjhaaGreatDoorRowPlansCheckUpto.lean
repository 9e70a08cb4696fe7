/-
  The law concordatlaw19.PlansCheck: whether any parts may be those of a global transaction, and the spans of any ops, is the chapter's answer, in new memory; nothing is changed. Where what it reads is of bulk at most 1048576: beyond, the sum of all lengths may wrap. No condition else but the listed tables of the library's, which the card ties.
-/
import Derived.Test.YtanjgeacmpmjhaaGreatDoorRows
import Derived.Test.YtanjgeacmpmjhaaGreatDoorCards
import Derived.Test.YtanjgeacmpmjhaaGreatDoorTie
import Derived.Test.YtanjgeacmpmjhaaGreatDoorLawPlansCheck
import Derived.Test.YtanjgeacmpmjhaaGreatDoorShape
import Derived.Test.YtanjgeacmpmjhaaGreatDoorMgPlansCheckUpto2
import Derived.SevenTiedAt
import Derived.JoinedCond
set_option linter.unusedVariables false
set_option linter.unusedSimpArgs false
namespace Go.Proofs.YtanjgeacmpmjhaaGreatDoor.PlansCheckUptoRowProof
open Go.RowKit Go.ChangeShapes Go.WideShapes Go.ChangeAt

theorem own : ownKnob Tryz.prog.godebug = none := by kernel_rfl
theorem laidOut : laidOutB Tryz.prog = true := by kernel_rfl

/-- What the condition gives: the library's table of powers of ten. -/
theorem tab10 {W : World} (h : laidMetH Tryz.prog Rows.plansCheckUptoRow.laid W) : Tab10 W := by
  rw [MakeChecks.laidMetH_plain _ _ _ (by kernel_rfl)] at h
  exact Lib.tabIs_of_head (t := 319) (e := 274) (n := 20) (show Tryz.prog.globalNamed "internal/strconv.uint64pow10" = some 0 by kernel_rfl) (by kernel_rfl) (by kernel_rfl) (by kernel_rfl) (by kernel_rfl) (by kernel_rfl) h.tail.tail

/-- The door's own heap meets the condition. -/
theorem door_met (os : Os) (args : Array Value) : laidMetH Tryz.prog Rows.plansCheckUptoRow.laid ((World.doorLaid Tryz.prog 24 os).forCall (fun _ _ => 0) ⟨#[], args, []⟩).memory :=
  laidMetH_of_parts3 (fuel := 8) (laidMet_of_run' 8 (by kernel_rfl) (by kernel_rfl)) (by kernel_rfl) (by kernel_rfl)
theorem reads (os : Os) {H : Type} (enc : TypeId × Value → H) : ∃ places, DataW.whole enc Tryz.prog ((World.doorLaid Tryz.prog 24 os).forCall (fun _ _ => 0) ⟨#[], #[.slice none 0 0, .int .u32 0], []⟩).memory Tryz.f6.params.toList Rows.plansCheckSpec.vars false #[Value.slice none 0 0, .int .u32 0].toList 8 = some ([.nil, .lit (.int .u32 0)], [], places) :=
  ⟨[], by kernel_rfl⟩

set_option maxRecDepth 100000 in
theorem lifted (os : Os) (started : os.Started) (H : Type) (enc : TypeId × Value → H) (F : Stop.Interp) :
    ReturnsInHanded {} Tryz.checked os 6 .any ((Rows.OpenSpec.upto Rows.plansCheckSpec).preRow enc Tryz.prog Tryz.f6 Rows.plansCheckUptoRow.domain false Rows.plansCheckUptoRow.laid) (((Rows.OpenSpec.upto Rows.plansCheckSpec).at F).post enc Tryz.prog Tryz.f6 false true false false) := by
  obtain ⟨places, hx⟩ := reads os enc
  refine law_liftU (C := Tryz.checked) started own 6 Tryz.f6 Rows.plansCheckSpec Rows.plansCheckUptoRow.laid F (by kernel_rfl) Tryz.func6 laidOut (by decide +kernel) rfl 4 rfl Tryz.underlying4 ?_
    (witness_upto (enc := enc) (C := Tryz.checked) (World.doorLaid Tryz.prog 24 os) #[.slice none 0 0, .int .u32 0] rfl (World.shaped_of_RefB (by kernel_rfl) (by kernel_rfl)) (by kernel_rfl)
      (OpenSpec.preRow_of_cond 8 hx (by kernel_rfl) (fun k hk => by cases hk; kernel_rfl) (by kernel_rfl) (door_met os _))) ?_
  · intro ds hd
    match ds, hd with
    | [_, _], _ => rfl
  · intro W base args ds ps hval hA hsz hL hbulk
    rw [show Tryz.f6.params.toList = [102, 42] from rfl] at hA hsz
    obtain ⟨v0, vs0, d0, ds0, p0, q0, hargs, rfl, rfl, h0, r0⟩ := trodAll_cons hA
    obtain ⟨v1, vs1, d1, ds1, p1, q1, rfl, rfl, rfl, h1, r1⟩ := trodAll_cons r0
    obtain ⟨rfl, rfl, rfl⟩ := trodAll_nil r1
    obtain rfl : args = #[v0, v1] := by cases args; simp_all
    obtain ⟨a0, n0, c0, rfl⟩ := okWide_slice Tryz.underlying102 (hval 0 _ _ rfl rfl)
    obtain ⟨ps0, rd0, ok0⟩ := partl_of (bytes := 32) (arg_holds hsz 0 rfl rfl 12 (by kernel_rfl) h0)
    have hk0 : sumP ps0 ≤ 1048576 := by
      obtain ⟨fuel, ht⟩ := h0
      have := partl_bulk (x := (d0, p0)) ht rd0
      simp only [Rows.uptoBulkAll] at hbulk
      simp only at this
      omega
    obtain ⟨m1, rfl⟩ := okWide_int Tryz.underlying42 (hval 1 _ _ rfl rfl)
    have ok1 := int_of (k := .u32) (arg_holds hsz 1 rfl rfl 12 (by kernel_rfl) h1)
    exact plansCheck_walk _ m1 ps0 W rd0 ok0 ok1 hk0 (tab10 hL)

theorem over : Rows.plansCheckUptoRow.holds Tryz.pinned (Rows.OpenSpec.upto Rows.plansCheckSpec) :=
  OpenClaim.holds_of_cond 6 Tryz.f6 rfl rfl rfl rfl rfl rfl rfl ⟨rfl, rfl, rfl, rfl, rfl⟩ rfl rfl rfl rfl rfl (by kernel_rfl) Tryz.func6 (by kernel_rfl)
    (of_decide_eq_true (by kernel_rfl)) (by unfold Func.isWrapper; first | (rw [if_pos (by decide +kernel)]; kernel_rfl) | (rw [if_neg (by decide +kernel)]; exact ⟨rfl, rfl⟩))
    (fun os started H enc _ F => by rw [OpenClaim.pre_eq_preRow]; exact lifted os started H enc F)

/-- The card: what the row lists is tied to the program's text. -/
theorem card : Rows.PlansCheckUptoCardSaid :=
  Claim7.holds_tied_plain_at .later [] _ true _ false over (fun _ h => by cases h) (by kernel_rfl) (fun _ h => by cases h) plansCheckUpto_row_tie rfl ⟨rfl, rfl⟩ (by kernel_rfl) rfl
    (fun f fn hf hfn => by
      obtain rfl : f = 6 := (Option.some.inj ((show Tryz.prog.funcNamed "concordat/concordatlaw19.PlansCheck" = some 6 by kernel_rfl).symm.trans hf)).symm
      obtain rfl : fn = Tryz.f6 := (Option.some.inj (Tryz.func6.symm.trans hfn)).symm
      exact ⟨by kernel_rfl, fun j t ht => by
        rw [show Tryz.f6.params = #[102, 42] from rfl] at ht
        have hm : t ∈ [102, 42] := by simpa using Array.mem_of_getElem? ht
        have hall : ([102, 42].all fun u => !Tryz.prog.wantsStandIn u) = true := by kernel_rfl
        exact (show Tryz.prog.wantsStandIn t = false by simpa using List.all_eq_true.1 hall t hm)⟩)
    (by kernel_rfl)

end Go.Proofs.YtanjgeacmpmjhaaGreatDoor.PlansCheckUptoRowProof
namespace Go.Proofs.YtanjgeacmpmjhaaGreatDoor
/-- The card. -/
theorem plansCheckUpto_holds : Rows.PlansCheckUptoCardSaid := PlansCheckUptoRowProof.card
#print axioms plansCheckUpto_holds
end Go.Proofs.YtanjgeacmpmjhaaGreatDoor
