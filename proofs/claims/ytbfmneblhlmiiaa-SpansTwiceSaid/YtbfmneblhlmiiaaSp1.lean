import Derived.Test.YtbfmneblhlmiiaaProg
import Derived.Test.YtbfmneblhlmiiaaEqSpan
import Derived.Test.YtbfmneblhlmiiaaLess
import Derived.Test.YtbfmneblhlmiiaaMeetC
set_option linter.unusedVariables false
set_option linter.unusedSimpArgs false
namespace Go.Proofs.Ytbfmneblhlmiiaa
open Go.RowKit

def spanOf (q : Int) (k t : ByteArray) : ByteArray := if q = 4 then t else k

set_option maxHeartbeats 400000 in
theorem of_calls (q : Int) (k t : ByteArray) (d : Int) (w : World) :
    Calls Try.prog 13 #[.agg #[.int .u8 q, .string k, .string t, .int .u32 d]] w fun e w' => e = .returned (.agg #[.string k, .string (spanOf q k t)]) ∧ Below w.heap.size w w' := by
  unfold spanOf
  by_cases hq : q = 4
  · subst hq
    go_enter Try.func13, Try.ntmps13
    go_wp2
    refine bodyPost_ret (v := .agg #[.string k, .string t]) (by simp [results, Try.results13, go_sem]) rfl ⟨rfl, ?_⟩
    exact ((Below.refl _ _).alloc (Nat.le_refl _) _).alloc (by simp) _
  · have hb2 : (q != 4) = true := by simpa using hq
    rw [if_neg hq]
    go_enter Try.func13, Try.ntmps13
    go_wp2
    refine bodyPost_ret (v := .agg #[.string k, .string k]) (by simp [results, Try.results13, go_sem]) rfl ⟨rfl, ?_⟩
    exact ((Below.refl _ _).alloc (Nat.le_refl _) _).alloc (by simp) _

set_option maxHeartbeats 400000 in
theorem rof_calls (q : Int) (k t : ByteArray) (d : Int) (w : World) :
    Calls Try.prog 14 #[.agg #[.int .u8 q, .string k, .string t, .int .u32 d]] w fun e w' => e = .returned (.agg #[.string k, .string (spanOf q k t)]) ∧ Below w.heap.size w w' := by
  unfold spanOf
  by_cases hq : q = 4
  · subst hq
    go_enter Try.func14, Try.ntmps14
    go_wp2
    refine bodyPost_ret (v := .agg #[.string k, .string t]) (by simp [results, Try.results14, go_sem]) rfl ⟨rfl, ?_⟩
    exact ((Below.refl _ _).alloc (Nat.le_refl _) _).alloc (by simp) _
  · have hb2 : (q == 4) = false := by simpa using hq
    rw [if_neg hq]
    go_enter Try.func14, Try.ntmps14
    go_wp2
    refine bodyPost_ret (v := .agg #[.string k, .string k]) (by simp [results, Try.results14, go_sem]) rfl ⟨rfl, ?_⟩
    exact ((Below.refl _ _).alloc (Nat.le_refl _) _).alloc (by simp) _

def writes (q : Int) : Bool := q == 2 || q == 3

set_option maxHeartbeats 400000 in
theorem writes_calls (q : Int) (k t : ByteArray) (d : Int) (w : World) :
    Calls Try.prog 15 #[.agg #[.int .u8 q, .string k, .string t, .int .u32 d]] w fun e w' => e = .returned (.bool (writes q)) ∧ Below w.heap.size w w' := by
  unfold writes
  cases h : q == 2
  all_goals
    go_enter Try.func15, Try.ntmps15
    go_wp2
    go_ret
    exact ⟨by simp, (Below.refl _ _).alloc (Nat.le_refl _) _⟩

set_option maxHeartbeats 400000 in
theorem rwrites_calls (q : Int) (k t : ByteArray) (d : Int) (w : World) :
    Calls Try.prog 16 #[.agg #[.int .u8 q, .string k, .string t, .int .u32 d]] w fun e w' => e = .returned (.bool (writes q)) ∧ Below w.heap.size w w' := by
  unfold writes
  cases h : q == 2
  all_goals
    go_enter Try.func16, Try.ntmps16
    go_wp2
    go_ret
    exact ⟨by simp, (Below.refl _ _).alloc (Nat.le_refl _) _⟩

end Go.Proofs.Ytbfmneblhlmiiaa
