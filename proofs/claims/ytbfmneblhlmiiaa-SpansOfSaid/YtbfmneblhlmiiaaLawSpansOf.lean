/-
  The law concordatlaw10.SpansOf: for every op, the program's span and whether it writes are the reference's. No condition.
-/
import Derived.Test.YtbfmneblhlmiiaaRows
import Derived.Test.YtbfmneblhlmiiaaSp1
import Derived.Test.YtbfmneblhlmiiaaShape
import Derived.Test.YtbfmneblhlmiiaaLift
namespace Go.Proofs.Ytbfmneblhlmiiaa
open Go.RowKit Go.ChangeShapes Go.WideShapes

set_option maxHeartbeats 400000 in
theorem spansOf_walk (q : Int) (k t : ByteArray) (d : Int) (w : World) :
    Calls Try.prog 3 #[.agg #[.int .u8 q, .string k, .string t, .int .u32 d]] w fun e w' => e = .returned (.bool true) ∧ Below w.heap.size w w' := by
  go_enter Try.func3, Try.ntmps3
  go_wp2_with fail
  have hb0 := fun p : Later (w.alloc (.cells #[.int .u8 q, .string k, .string t, .int .u32 d] 25)) => Later.cell p (a := ⟨w.heap.size, 0, none⟩) (v := .int .u8 q) (by simp)
  have hb1 := fun p : Later (w.alloc (.cells #[.int .u8 q, .string k, .string t, .int .u32 d] 25)) => Later.cell p (a := ⟨w.heap.size, 1, none⟩) (v := .string k) (by simp)
  have hb2 := fun p : Later (w.alloc (.cells #[.int .u8 q, .string k, .string t, .int .u32 d] 25)) => Later.cell p (a := ⟨w.heap.size, 2, none⟩) (v := .string t) (by simp)
  have hb3 := fun p : Later (w.alloc (.cells #[.int .u8 q, .string k, .string t, .int .u32 d] 25)) => Later.cell p (a := ⟨w.heap.size, 3, none⟩) (v := .int .u32 d) (by simp)
  have heq := eql_span
  have heg := eqg_span
  refine wp_region_later (by kernel_rfl) (by kernel_rfl) ?_
  repeat (quiet_step (first | (go_at_call 13; exact Calls.later (of_calls _ _ _ _ _)) | (go_at_call 14; exact Calls.later (rof_calls _ _ _ _ _)) | (go_at_call 15; exact Calls.later (writes_calls _ _ _ _ _)) | (go_at_call 16; exact Calls.later (rwrites_calls _ _ _ _ _))))
  refine wpQuiet_nil ?_
  rintro _ ⟨p, rfl⟩
  clear hb0 hb1 hb2 hb3 heq heg
  go_wp2
  go_ret
  exact ⟨by simp, Below.step ((Below.refl _ _).alloc (Nat.le_refl _) _) p.ok⟩

theorem op_of {w : World} {cs : List Value} (h : Sh.holds w (.struct [.int .u8, .str, .str, .int .u32]) cs) : ∃ (q : Int) (k t : ByteArray) (d : Int), cs = [.int .u8 q, .string k, .string t, .int .u32 d] := by
  simp only [Sh.holds, Sh.holdsAll] at h
  obtain ⟨_, _, rfl, ⟨q, rfl, _⟩, _, _, rfl, ⟨k, rfl, _⟩, _, _, rfl, ⟨t, rfl, _⟩, _, _, rfl, ⟨d, rfl, _⟩, rfl⟩ := h
  exact ⟨q, k, t, d, rfl⟩

theorem own : ownKnob Try.prog.godebug = none := by kernel_rfl
theorem laidOut : laidOutB Try.prog = true := by kernel_rfl

set_option maxRecDepth 100000 in
theorem spansOf_lifted (os : Os) (started : os.Started) (H : Type) (enc : TypeId × Value → H) :
    ReturnsInHanded {} Try.checked os 3 .any (Rows.spansOfSpec.pre6 enc Try.prog Try.f3 Rows.spansOfRow.domain false) (Rows.spansOfSpec.post enc Try.prog Try.f3 false true false false) := by
  refine law_lift (C := Try.checked) started own 3 Try.f3 Rows.spansOfSpec (by kernel_rfl) Try.func3 laidOut (by decide +kernel) rfl 4 rfl Try.underlying4 ?_
    (ChangeSpec.witness6 (enc := enc) (C := Try.checked) false ⟨#[], #[.agg #[.int .u8 0, .string ByteArray.empty, .string ByteArray.empty, .int .u32 0]], []⟩ 8 (by kernel_rfl) (by kernel_rfl) (by kernel_rfl) (by kernel_rfl)) ?_
  · intro ds hd
    match ds, hd with
    | [_], _ => rfl
  · intro W base args ds ps hval hA hsz
    rw [show Try.f3.params.toList = [25] from rfl] at hA hsz
    obtain ⟨v0, vs0, d0, ds0, p0, q0, hargs, rfl, rfl, h0, r0⟩ := trodAll_cons hA
    obtain ⟨rfl, rfl, rfl⟩ := trodAll_nil r0
    obtain rfl : args = #[v0] := by cases args; simp_all
    obtain ⟨q, k, t, d, hcs⟩ := op_of (arg_holds hsz 0 rfl rfl 8 (by kernel_rfl) h0)
    obtain rfl := agg_of_list (arg_agg Try.underlying25 (hval 0 _ _ rfl rfl)) hcs
    exact spansOf_walk q k t d W

theorem spansOf_over : Rows.spansOfRow.holds Try.pinned (OpenSpec.ofChange Rows.spansOfSpec) :=
  OpenClaim.holds_of_wide 3 Try.f3 rfl rfl rfl rfl rfl rfl rfl ⟨rfl, rfl, rfl, rfl, rfl⟩ rfl rfl rfl rfl rfl (by kernel_rfl) Try.func3 (by kernel_rfl)
    (of_decide_eq_true (by kernel_rfl)) (by unfold Func.isWrapper; first | (rw [if_pos (by decide +kernel)]; kernel_rfl) | (rw [if_neg (by decide +kernel)]; exact ⟨rfl, rfl⟩))
    (fun os started H enc _ => spansOf_lifted os started H enc)

/-- The row. -/
theorem spansOf_holds : Rows.SpansOfSaid := spansOf_over
#print axioms spansOf_holds

end Go.Proofs.Ytbfmneblhlmiiaa
