import Derived.Test.YtbfmneblhlmiiaaGreatDoorProg
import Derived.Test.YtbfmneblhlmiiaaGreatDoorBk0
set_option linter.unusedVariables false
set_option linter.unusedSimpArgs false
set_option linter.unusedSectionVars false
namespace Go.Proofs.YtbfmneblhlmiiaaGreatDoor
open Go.RowKit

set_option maxHeartbeats 400000 in
theorem fillByte_nil {w : World} {B : Nat} {cs : Array Value} (hobj : w.heap[B]? = some (.cells cs bookT (0, 0))) (hcs : cs[1]? = some nilV) :
    Calls Tryz.prog 20 #[.pointer (some ⟨B, 0, none⟩)] w fun e w' => e = .returned (.tuple #[]) ∧ w = w' := by
  have hc : w.cell? ⟨B, 1, none⟩ = some nilV := by rw [heap_cell hobj]; exact hcs
  clear hobj hcs
  go_enter Tryz.func20, Tryz.ntmps20
  go_wp2
  go_loopw [2] (fun iv wr => iv = .int .i64 0 ∧ w = wr) (fun _ _ => 0)
  case atStart => exact ⟨rfl, rfl⟩
  case round =>
    obtain ⟨rfl, rfl⟩ := hrel
    go_wp2
    go_end0
    exact ⟨rfl, rfl⟩

set_option maxHeartbeats 400000 in
theorem growByte_nil {w : World} {B : Nat} {cs : Array Value} (hobj : w.heap[B]? = some (.cells cs bookT (0, 0))) (hcs : cs[1]? = some nilV) :
    Calls Tryz.prog 32 #[.pointer (some ⟨B, 0, none⟩)] w fun e w' => e = .returned (.tuple #[]) ∧ w = w' := by
  have hc : w.cell? ⟨B, 1, none⟩ = some nilV := by rw [heap_cell hobj]; exact hcs
  clear hobj hcs
  go_enter Tryz.func32, Tryz.ntmps32
  go_wp2
  go_loopw [2] (fun iv wr => iv = .int .i64 0 ∧ w = wr) (fun _ _ => 0)
  case atStart => exact ⟨rfl, rfl⟩
  case round =>
    obtain ⟨rfl, rfl⟩ := hrel
    go_wp2
    go_end0
    exact ⟨rfl, rfl⟩

set_option maxHeartbeats 400000 in
theorem lookByte_nil {w : World} {B : Nat} {cs : Array Value} (hobj : w.heap[B]? = some (.cells cs bookT (0, 0))) (hcs : cs[1]? = some nilV) :
    Calls Tryz.prog 44 #[.pointer (some ⟨B, 0, none⟩)] w fun e w' => e = .returned (.bool true) ∧ w = w' := by
  have hc : w.cell? ⟨B, 1, none⟩ = some nilV := by rw [heap_cell hobj]; exact hcs
  clear hobj hcs
  go_enter Tryz.func44, Tryz.ntmps44
  go_wp2
  go_loopw [3] (fun iv wr => iv = .int .i64 0 ∧ w = wr) (fun _ _ => 0)
  case atStart => exact ⟨rfl, rfl⟩
  case round =>
    obtain ⟨rfl, rfl⟩ := hrel
    go_wp2
    go_ret
    exact ⟨rfl, rfl⟩

set_option maxHeartbeats 400000 in
theorem fillId_nil {w : World} {B : Nat} {cs : Array Value} (hobj : w.heap[B]? = some (.cells cs bookT (0, 0))) (hcs : cs[2]? = some nilV) :
    Calls Tryz.prog 21 #[.pointer (some ⟨B, 0, none⟩)] w fun e w' => e = .returned (.tuple #[]) ∧ w = w' := by
  have hc : w.cell? ⟨B, 2, none⟩ = some nilV := by rw [heap_cell hobj]; exact hcs
  clear hobj hcs
  go_enter Tryz.func21, Tryz.ntmps21
  go_wp2
  go_loopw [2] (fun iv wr => iv = .int .i64 0 ∧ w = wr) (fun _ _ => 0)
  case atStart => exact ⟨rfl, rfl⟩
  case round =>
    obtain ⟨rfl, rfl⟩ := hrel
    go_wp2
    go_end0
    exact ⟨rfl, rfl⟩

set_option maxHeartbeats 400000 in
theorem growId_nil {w : World} {B : Nat} {cs : Array Value} (hobj : w.heap[B]? = some (.cells cs bookT (0, 0))) (hcs : cs[2]? = some nilV) :
    Calls Tryz.prog 33 #[.pointer (some ⟨B, 0, none⟩)] w fun e w' => e = .returned (.tuple #[]) ∧ w = w' := by
  have hc : w.cell? ⟨B, 2, none⟩ = some nilV := by rw [heap_cell hobj]; exact hcs
  clear hobj hcs
  go_enter Tryz.func33, Tryz.ntmps33
  go_wp2
  go_loopw [2] (fun iv wr => iv = .int .i64 0 ∧ w = wr) (fun _ _ => 0)
  case atStart => exact ⟨rfl, rfl⟩
  case round =>
    obtain ⟨rfl, rfl⟩ := hrel
    go_wp2
    go_end0
    exact ⟨rfl, rfl⟩

set_option maxHeartbeats 400000 in
theorem lookId_nil {w : World} {B : Nat} {cs : Array Value} (hobj : w.heap[B]? = some (.cells cs bookT (0, 0))) (hcs : cs[2]? = some nilV) :
    Calls Tryz.prog 45 #[.pointer (some ⟨B, 0, none⟩)] w fun e w' => e = .returned (.bool true) ∧ w = w' := by
  have hc : w.cell? ⟨B, 2, none⟩ = some nilV := by rw [heap_cell hobj]; exact hcs
  clear hobj hcs
  go_enter Tryz.func45, Tryz.ntmps45
  go_wp2
  go_loopw [3] (fun iv wr => iv = .int .i64 0 ∧ w = wr) (fun _ _ => 0)
  case atStart => exact ⟨rfl, rfl⟩
  case round =>
    obtain ⟨rfl, rfl⟩ := hrel
    go_wp2
    go_ret
    exact ⟨rfl, rfl⟩

set_option maxHeartbeats 400000 in
theorem fillInt_nil {w : World} {B : Nat} {cs : Array Value} (hobj : w.heap[B]? = some (.cells cs bookT (0, 0))) (hcs : cs[3]? = some nilV) :
    Calls Tryz.prog 22 #[.pointer (some ⟨B, 0, none⟩)] w fun e w' => e = .returned (.tuple #[]) ∧ w = w' := by
  have hc : w.cell? ⟨B, 3, none⟩ = some nilV := by rw [heap_cell hobj]; exact hcs
  clear hobj hcs
  go_enter Tryz.func22, Tryz.ntmps22
  go_wp2
  go_loopw [2] (fun iv wr => iv = .int .i64 0 ∧ w = wr) (fun _ _ => 0)
  case atStart => exact ⟨rfl, rfl⟩
  case round =>
    obtain ⟨rfl, rfl⟩ := hrel
    go_wp2
    go_end0
    exact ⟨rfl, rfl⟩

set_option maxHeartbeats 400000 in
theorem growInt_nil {w : World} {B : Nat} {cs : Array Value} (hobj : w.heap[B]? = some (.cells cs bookT (0, 0))) (hcs : cs[3]? = some nilV) :
    Calls Tryz.prog 34 #[.pointer (some ⟨B, 0, none⟩)] w fun e w' => e = .returned (.tuple #[]) ∧ w = w' := by
  have hc : w.cell? ⟨B, 3, none⟩ = some nilV := by rw [heap_cell hobj]; exact hcs
  clear hobj hcs
  go_enter Tryz.func34, Tryz.ntmps34
  go_wp2
  go_loopw [2] (fun iv wr => iv = .int .i64 0 ∧ w = wr) (fun _ _ => 0)
  case atStart => exact ⟨rfl, rfl⟩
  case round =>
    obtain ⟨rfl, rfl⟩ := hrel
    go_wp2
    go_end0
    exact ⟨rfl, rfl⟩

set_option maxHeartbeats 400000 in
theorem lookInt_nil {w : World} {B : Nat} {cs : Array Value} (hobj : w.heap[B]? = some (.cells cs bookT (0, 0))) (hcs : cs[3]? = some nilV) :
    Calls Tryz.prog 46 #[.pointer (some ⟨B, 0, none⟩)] w fun e w' => e = .returned (.bool true) ∧ w = w' := by
  have hc : w.cell? ⟨B, 3, none⟩ = some nilV := by rw [heap_cell hobj]; exact hcs
  clear hobj hcs
  go_enter Tryz.func46, Tryz.ntmps46
  go_wp2
  go_loopw [3] (fun iv wr => iv = .int .i64 0 ∧ w = wr) (fun _ _ => 0)
  case atStart => exact ⟨rfl, rfl⟩
  case round =>
    obtain ⟨rfl, rfl⟩ := hrel
    go_wp2
    go_ret
    exact ⟨rfl, rfl⟩

set_option maxHeartbeats 400000 in
theorem fillText_nil {w : World} {B : Nat} {cs : Array Value} (hobj : w.heap[B]? = some (.cells cs bookT (0, 0))) (hcs : cs[4]? = some nilV) :
    Calls Tryz.prog 23 #[.pointer (some ⟨B, 0, none⟩)] w fun e w' => e = .returned (.tuple #[]) ∧ w = w' := by
  have hc : w.cell? ⟨B, 4, none⟩ = some nilV := by rw [heap_cell hobj]; exact hcs
  clear hobj hcs
  go_enter Tryz.func23, Tryz.ntmps23
  go_wp2
  go_loopw [2] (fun iv wr => iv = .int .i64 0 ∧ w = wr) (fun _ _ => 0)
  case atStart => exact ⟨rfl, rfl⟩
  case round =>
    obtain ⟨rfl, rfl⟩ := hrel
    go_wp2
    go_end0
    exact ⟨rfl, rfl⟩

set_option maxHeartbeats 400000 in
theorem growText_nil {w : World} {B : Nat} {cs : Array Value} (hobj : w.heap[B]? = some (.cells cs bookT (0, 0))) (hcs : cs[4]? = some nilV) :
    Calls Tryz.prog 35 #[.pointer (some ⟨B, 0, none⟩)] w fun e w' => e = .returned (.tuple #[]) ∧ w = w' := by
  have hc : w.cell? ⟨B, 4, none⟩ = some nilV := by rw [heap_cell hobj]; exact hcs
  clear hobj hcs
  go_enter Tryz.func35, Tryz.ntmps35
  go_wp2
  go_loopw [2] (fun iv wr => iv = .int .i64 0 ∧ w = wr) (fun _ _ => 0)
  case atStart => exact ⟨rfl, rfl⟩
  case round =>
    obtain ⟨rfl, rfl⟩ := hrel
    go_wp2
    go_end0
    exact ⟨rfl, rfl⟩

set_option maxHeartbeats 400000 in
theorem lookText_nil {w : World} {B : Nat} {cs : Array Value} (hobj : w.heap[B]? = some (.cells cs bookT (0, 0))) (hcs : cs[4]? = some nilV) :
    Calls Tryz.prog 47 #[.pointer (some ⟨B, 0, none⟩)] w fun e w' => e = .returned (.bool true) ∧ w = w' := by
  have hc : w.cell? ⟨B, 4, none⟩ = some nilV := by rw [heap_cell hobj]; exact hcs
  clear hobj hcs
  go_enter Tryz.func47, Tryz.ntmps47
  go_wp2
  go_loopw [3] (fun iv wr => iv = .int .i64 0 ∧ w = wr) (fun _ _ => 0)
  case atStart => exact ⟨rfl, rfl⟩
  case round =>
    obtain ⟨rfl, rfl⟩ := hrel
    go_wp2
    go_ret
    exact ⟨rfl, rfl⟩

set_option maxHeartbeats 400000 in
theorem fillRow_nil {w : World} {B : Nat} {cs : Array Value} (hobj : w.heap[B]? = some (.cells cs bookT (0, 0))) (hcs : cs[5]? = some nilV) :
    Calls Tryz.prog 24 #[.pointer (some ⟨B, 0, none⟩)] w fun e w' => e = .returned (.tuple #[]) ∧ w = w' := by
  have hc : w.cell? ⟨B, 5, none⟩ = some nilV := by rw [heap_cell hobj]; exact hcs
  clear hobj hcs
  go_enter Tryz.func24, Tryz.ntmps24
  go_wp2
  go_loopw [2] (fun iv wr => iv = .int .i64 0 ∧ w = wr) (fun _ _ => 0)
  case atStart => exact ⟨rfl, rfl⟩
  case round =>
    obtain ⟨rfl, rfl⟩ := hrel
    go_wp2
    go_end0
    exact ⟨rfl, rfl⟩

set_option maxHeartbeats 400000 in
theorem growRow_nil {w : World} {B : Nat} {cs : Array Value} (hobj : w.heap[B]? = some (.cells cs bookT (0, 0))) (hcs : cs[5]? = some nilV) :
    Calls Tryz.prog 36 #[.pointer (some ⟨B, 0, none⟩)] w fun e w' => e = .returned (.tuple #[]) ∧ w = w' := by
  have hc : w.cell? ⟨B, 5, none⟩ = some nilV := by rw [heap_cell hobj]; exact hcs
  clear hobj hcs
  go_enter Tryz.func36, Tryz.ntmps36
  go_wp2
  go_loopw [2] (fun iv wr => iv = .int .i64 0 ∧ w = wr) (fun _ _ => 0)
  case atStart => exact ⟨rfl, rfl⟩
  case round =>
    obtain ⟨rfl, rfl⟩ := hrel
    go_wp2
    go_end0
    exact ⟨rfl, rfl⟩

set_option maxHeartbeats 400000 in
theorem lookRow_nil {w : World} {B : Nat} {cs : Array Value} (hobj : w.heap[B]? = some (.cells cs bookT (0, 0))) (hcs : cs[5]? = some nilV) :
    Calls Tryz.prog 48 #[.pointer (some ⟨B, 0, none⟩)] w fun e w' => e = .returned (.bool true) ∧ w = w' := by
  have hc : w.cell? ⟨B, 5, none⟩ = some nilV := by rw [heap_cell hobj]; exact hcs
  clear hobj hcs
  go_enter Tryz.func48, Tryz.ntmps48
  go_wp2
  go_loopw [3] (fun iv wr => iv = .int .i64 0 ∧ w = wr) (fun _ _ => 0)
  case atStart => exact ⟨rfl, rfl⟩
  case round =>
    obtain ⟨rfl, rfl⟩ := hrel
    go_wp2
    go_ret
    exact ⟨rfl, rfl⟩

set_option maxHeartbeats 400000 in
theorem fillOp_nil {w : World} {B : Nat} {cs : Array Value} (hobj : w.heap[B]? = some (.cells cs bookT (0, 0))) (hcs : cs[6]? = some nilV) :
    Calls Tryz.prog 25 #[.pointer (some ⟨B, 0, none⟩)] w fun e w' => e = .returned (.tuple #[]) ∧ w = w' := by
  have hc : w.cell? ⟨B, 6, none⟩ = some nilV := by rw [heap_cell hobj]; exact hcs
  clear hobj hcs
  go_enter Tryz.func25, Tryz.ntmps25
  go_wp2
  go_loopw [2] (fun iv wr => iv = .int .i64 0 ∧ w = wr) (fun _ _ => 0)
  case atStart => exact ⟨rfl, rfl⟩
  case round =>
    obtain ⟨rfl, rfl⟩ := hrel
    go_wp2
    go_end0
    exact ⟨rfl, rfl⟩

set_option maxHeartbeats 400000 in
theorem growOp_nil {w : World} {B : Nat} {cs : Array Value} (hobj : w.heap[B]? = some (.cells cs bookT (0, 0))) (hcs : cs[6]? = some nilV) :
    Calls Tryz.prog 37 #[.pointer (some ⟨B, 0, none⟩)] w fun e w' => e = .returned (.tuple #[]) ∧ w = w' := by
  have hc : w.cell? ⟨B, 6, none⟩ = some nilV := by rw [heap_cell hobj]; exact hcs
  clear hobj hcs
  go_enter Tryz.func37, Tryz.ntmps37
  go_wp2
  go_loopw [2] (fun iv wr => iv = .int .i64 0 ∧ w = wr) (fun _ _ => 0)
  case atStart => exact ⟨rfl, rfl⟩
  case round =>
    obtain ⟨rfl, rfl⟩ := hrel
    go_wp2
    go_end0
    exact ⟨rfl, rfl⟩

set_option maxHeartbeats 400000 in
theorem lookOp_nil {w : World} {B : Nat} {cs : Array Value} (hobj : w.heap[B]? = some (.cells cs bookT (0, 0))) (hcs : cs[6]? = some nilV) :
    Calls Tryz.prog 49 #[.pointer (some ⟨B, 0, none⟩)] w fun e w' => e = .returned (.bool true) ∧ w = w' := by
  have hc : w.cell? ⟨B, 6, none⟩ = some nilV := by rw [heap_cell hobj]; exact hcs
  clear hobj hcs
  go_enter Tryz.func49, Tryz.ntmps49
  go_wp2
  go_loopw [3] (fun iv wr => iv = .int .i64 0 ∧ w = wr) (fun _ _ => 0)
  case atStart => exact ⟨rfl, rfl⟩
  case round =>
    obtain ⟨rfl, rfl⟩ := hrel
    go_wp2
    go_ret
    exact ⟨rfl, rfl⟩

set_option maxHeartbeats 400000 in
theorem fillSpan_nil {w : World} {B : Nat} {cs : Array Value} (hobj : w.heap[B]? = some (.cells cs bookT (0, 0))) (hcs : cs[7]? = some nilV) :
    Calls Tryz.prog 26 #[.pointer (some ⟨B, 0, none⟩)] w fun e w' => e = .returned (.tuple #[]) ∧ w = w' := by
  have hc : w.cell? ⟨B, 7, none⟩ = some nilV := by rw [heap_cell hobj]; exact hcs
  clear hobj hcs
  go_enter Tryz.func26, Tryz.ntmps26
  go_wp2
  go_loopw [2] (fun iv wr => iv = .int .i64 0 ∧ w = wr) (fun _ _ => 0)
  case atStart => exact ⟨rfl, rfl⟩
  case round =>
    obtain ⟨rfl, rfl⟩ := hrel
    go_wp2
    go_end0
    exact ⟨rfl, rfl⟩

set_option maxHeartbeats 400000 in
theorem growSpan_nil {w : World} {B : Nat} {cs : Array Value} (hobj : w.heap[B]? = some (.cells cs bookT (0, 0))) (hcs : cs[7]? = some nilV) :
    Calls Tryz.prog 38 #[.pointer (some ⟨B, 0, none⟩)] w fun e w' => e = .returned (.tuple #[]) ∧ w = w' := by
  have hc : w.cell? ⟨B, 7, none⟩ = some nilV := by rw [heap_cell hobj]; exact hcs
  clear hobj hcs
  go_enter Tryz.func38, Tryz.ntmps38
  go_wp2
  go_loopw [2] (fun iv wr => iv = .int .i64 0 ∧ w = wr) (fun _ _ => 0)
  case atStart => exact ⟨rfl, rfl⟩
  case round =>
    obtain ⟨rfl, rfl⟩ := hrel
    go_wp2
    go_end0
    exact ⟨rfl, rfl⟩

set_option maxHeartbeats 400000 in
theorem lookSpan_nil {w : World} {B : Nat} {cs : Array Value} (hobj : w.heap[B]? = some (.cells cs bookT (0, 0))) (hcs : cs[7]? = some nilV) :
    Calls Tryz.prog 50 #[.pointer (some ⟨B, 0, none⟩)] w fun e w' => e = .returned (.bool true) ∧ w = w' := by
  have hc : w.cell? ⟨B, 7, none⟩ = some nilV := by rw [heap_cell hobj]; exact hcs
  clear hobj hcs
  go_enter Tryz.func50, Tryz.ntmps50
  go_wp2
  go_loopw [3] (fun iv wr => iv = .int .i64 0 ∧ w = wr) (fun _ _ => 0)
  case atStart => exact ⟨rfl, rfl⟩
  case round =>
    obtain ⟨rfl, rfl⟩ := hrel
    go_wp2
    go_ret
    exact ⟨rfl, rfl⟩

set_option maxHeartbeats 400000 in
theorem fillChange_nil {w : World} {B : Nat} {cs : Array Value} (hobj : w.heap[B]? = some (.cells cs bookT (0, 0))) (hcs : cs[8]? = some nilV) :
    Calls Tryz.prog 27 #[.pointer (some ⟨B, 0, none⟩)] w fun e w' => e = .returned (.tuple #[]) ∧ w = w' := by
  have hc : w.cell? ⟨B, 8, none⟩ = some nilV := by rw [heap_cell hobj]; exact hcs
  clear hobj hcs
  go_enter Tryz.func27, Tryz.ntmps27
  go_wp2
  go_loopw [2] (fun iv wr => iv = .int .i64 0 ∧ w = wr) (fun _ _ => 0)
  case atStart => exact ⟨rfl, rfl⟩
  case round =>
    obtain ⟨rfl, rfl⟩ := hrel
    go_wp2
    go_end0
    exact ⟨rfl, rfl⟩

set_option maxHeartbeats 400000 in
theorem growChange_nil {w : World} {B : Nat} {cs : Array Value} (hobj : w.heap[B]? = some (.cells cs bookT (0, 0))) (hcs : cs[8]? = some nilV) :
    Calls Tryz.prog 39 #[.pointer (some ⟨B, 0, none⟩)] w fun e w' => e = .returned (.tuple #[]) ∧ w = w' := by
  have hc : w.cell? ⟨B, 8, none⟩ = some nilV := by rw [heap_cell hobj]; exact hcs
  clear hobj hcs
  go_enter Tryz.func39, Tryz.ntmps39
  go_wp2
  go_loopw [2] (fun iv wr => iv = .int .i64 0 ∧ w = wr) (fun _ _ => 0)
  case atStart => exact ⟨rfl, rfl⟩
  case round =>
    obtain ⟨rfl, rfl⟩ := hrel
    go_wp2
    go_end0
    exact ⟨rfl, rfl⟩

set_option maxHeartbeats 400000 in
theorem lookChange_nil {w : World} {B : Nat} {cs : Array Value} (hobj : w.heap[B]? = some (.cells cs bookT (0, 0))) (hcs : cs[8]? = some nilV) :
    Calls Tryz.prog 51 #[.pointer (some ⟨B, 0, none⟩)] w fun e w' => e = .returned (.bool true) ∧ w = w' := by
  have hc : w.cell? ⟨B, 8, none⟩ = some nilV := by rw [heap_cell hobj]; exact hcs
  clear hobj hcs
  go_enter Tryz.func51, Tryz.ntmps51
  go_wp2
  go_loopw [3] (fun iv wr => iv = .int .i64 0 ∧ w = wr) (fun _ _ => 0)
  case atStart => exact ⟨rfl, rfl⟩
  case round =>
    obtain ⟨rfl, rfl⟩ := hrel
    go_wp2
    go_ret
    exact ⟨rfl, rfl⟩

set_option maxHeartbeats 400000 in
theorem fillResult_nil {w : World} {B : Nat} {cs : Array Value} (hobj : w.heap[B]? = some (.cells cs bookT (0, 0))) (hcs : cs[9]? = some nilV) :
    Calls Tryz.prog 28 #[.pointer (some ⟨B, 0, none⟩)] w fun e w' => e = .returned (.tuple #[]) ∧ w = w' := by
  have hc : w.cell? ⟨B, 9, none⟩ = some nilV := by rw [heap_cell hobj]; exact hcs
  clear hobj hcs
  go_enter Tryz.func28, Tryz.ntmps28
  go_wp2
  go_loopw [2] (fun iv wr => iv = .int .i64 0 ∧ w = wr) (fun _ _ => 0)
  case atStart => exact ⟨rfl, rfl⟩
  case round =>
    obtain ⟨rfl, rfl⟩ := hrel
    go_wp2
    go_end0
    exact ⟨rfl, rfl⟩

set_option maxHeartbeats 400000 in
theorem growResult_nil {w : World} {B : Nat} {cs : Array Value} (hobj : w.heap[B]? = some (.cells cs bookT (0, 0))) (hcs : cs[9]? = some nilV) :
    Calls Tryz.prog 40 #[.pointer (some ⟨B, 0, none⟩)] w fun e w' => e = .returned (.tuple #[]) ∧ w = w' := by
  have hc : w.cell? ⟨B, 9, none⟩ = some nilV := by rw [heap_cell hobj]; exact hcs
  clear hobj hcs
  go_enter Tryz.func40, Tryz.ntmps40
  go_wp2
  go_loopw [2] (fun iv wr => iv = .int .i64 0 ∧ w = wr) (fun _ _ => 0)
  case atStart => exact ⟨rfl, rfl⟩
  case round =>
    obtain ⟨rfl, rfl⟩ := hrel
    go_wp2
    go_end0
    exact ⟨rfl, rfl⟩

set_option maxHeartbeats 400000 in
theorem lookResult_nil {w : World} {B : Nat} {cs : Array Value} (hobj : w.heap[B]? = some (.cells cs bookT (0, 0))) (hcs : cs[9]? = some nilV) :
    Calls Tryz.prog 52 #[.pointer (some ⟨B, 0, none⟩)] w fun e w' => e = .returned (.bool true) ∧ w = w' := by
  have hc : w.cell? ⟨B, 9, none⟩ = some nilV := by rw [heap_cell hobj]; exact hcs
  clear hobj hcs
  go_enter Tryz.func52, Tryz.ntmps52
  go_wp2
  go_loopw [3] (fun iv wr => iv = .int .i64 0 ∧ w = wr) (fun _ _ => 0)
  case atStart => exact ⟨rfl, rfl⟩
  case round =>
    obtain ⟨rfl, rfl⟩ := hrel
    go_wp2
    go_ret
    exact ⟨rfl, rfl⟩

set_option maxHeartbeats 400000 in
theorem fillMsg_nil {w : World} {B : Nat} {cs : Array Value} (hobj : w.heap[B]? = some (.cells cs bookT (0, 0))) (hcs : cs[10]? = some nilV) :
    Calls Tryz.prog 29 #[.pointer (some ⟨B, 0, none⟩)] w fun e w' => e = .returned (.tuple #[]) ∧ w = w' := by
  have hc : w.cell? ⟨B, 10, none⟩ = some nilV := by rw [heap_cell hobj]; exact hcs
  clear hobj hcs
  go_enter Tryz.func29, Tryz.ntmps29
  go_wp2
  go_loopw [2] (fun iv wr => iv = .int .i64 0 ∧ w = wr) (fun _ _ => 0)
  case atStart => exact ⟨rfl, rfl⟩
  case round =>
    obtain ⟨rfl, rfl⟩ := hrel
    go_wp2
    go_end0
    exact ⟨rfl, rfl⟩

set_option maxHeartbeats 400000 in
theorem growMsg_nil {w : World} {B : Nat} {cs : Array Value} (hobj : w.heap[B]? = some (.cells cs bookT (0, 0))) (hcs : cs[10]? = some nilV) :
    Calls Tryz.prog 41 #[.pointer (some ⟨B, 0, none⟩)] w fun e w' => e = .returned (.tuple #[]) ∧ w = w' := by
  have hc : w.cell? ⟨B, 10, none⟩ = some nilV := by rw [heap_cell hobj]; exact hcs
  clear hobj hcs
  go_enter Tryz.func41, Tryz.ntmps41
  go_wp2
  go_loopw [2] (fun iv wr => iv = .int .i64 0 ∧ w = wr) (fun _ _ => 0)
  case atStart => exact ⟨rfl, rfl⟩
  case round =>
    obtain ⟨rfl, rfl⟩ := hrel
    go_wp2
    go_end0
    exact ⟨rfl, rfl⟩

set_option maxHeartbeats 400000 in
theorem lookMsg_nil {w : World} {B : Nat} {cs : Array Value} (hobj : w.heap[B]? = some (.cells cs bookT (0, 0))) (hcs : cs[10]? = some nilV) :
    Calls Tryz.prog 53 #[.pointer (some ⟨B, 0, none⟩)] w fun e w' => e = .returned (.bool true) ∧ w = w' := by
  have hc : w.cell? ⟨B, 10, none⟩ = some nilV := by rw [heap_cell hobj]; exact hcs
  clear hobj hcs
  go_enter Tryz.func53, Tryz.ntmps53
  go_wp2
  go_loopw [3] (fun iv wr => iv = .int .i64 0 ∧ w = wr) (fun _ _ => 0)
  case atStart => exact ⟨rfl, rfl⟩
  case round =>
    obtain ⟨rfl, rfl⟩ := hrel
    go_wp2
    go_ret
    exact ⟨rfl, rfl⟩

set_option maxHeartbeats 400000 in
theorem fillPart_nil {w : World} {B : Nat} {cs : Array Value} (hobj : w.heap[B]? = some (.cells cs bookT (0, 0))) (hcs : cs[11]? = some nilV) :
    Calls Tryz.prog 30 #[.pointer (some ⟨B, 0, none⟩)] w fun e w' => e = .returned (.tuple #[]) ∧ w = w' := by
  have hc : w.cell? ⟨B, 11, none⟩ = some nilV := by rw [heap_cell hobj]; exact hcs
  clear hobj hcs
  go_enter Tryz.func30, Tryz.ntmps30
  go_wp2
  go_loopw [2] (fun iv wr => iv = .int .i64 0 ∧ w = wr) (fun _ _ => 0)
  case atStart => exact ⟨rfl, rfl⟩
  case round =>
    obtain ⟨rfl, rfl⟩ := hrel
    go_wp2
    go_end0
    exact ⟨rfl, rfl⟩

set_option maxHeartbeats 400000 in
theorem growPart_nil {w : World} {B : Nat} {cs : Array Value} (hobj : w.heap[B]? = some (.cells cs bookT (0, 0))) (hcs : cs[11]? = some nilV) :
    Calls Tryz.prog 42 #[.pointer (some ⟨B, 0, none⟩)] w fun e w' => e = .returned (.tuple #[]) ∧ w = w' := by
  have hc : w.cell? ⟨B, 11, none⟩ = some nilV := by rw [heap_cell hobj]; exact hcs
  clear hobj hcs
  go_enter Tryz.func42, Tryz.ntmps42
  go_wp2
  go_loopw [2] (fun iv wr => iv = .int .i64 0 ∧ w = wr) (fun _ _ => 0)
  case atStart => exact ⟨rfl, rfl⟩
  case round =>
    obtain ⟨rfl, rfl⟩ := hrel
    go_wp2
    go_end0
    exact ⟨rfl, rfl⟩

set_option maxHeartbeats 400000 in
theorem lookPart_nil {w : World} {B : Nat} {cs : Array Value} (hobj : w.heap[B]? = some (.cells cs bookT (0, 0))) (hcs : cs[11]? = some nilV) :
    Calls Tryz.prog 54 #[.pointer (some ⟨B, 0, none⟩)] w fun e w' => e = .returned (.bool true) ∧ w = w' := by
  have hc : w.cell? ⟨B, 11, none⟩ = some nilV := by rw [heap_cell hobj]; exact hcs
  clear hobj hcs
  go_enter Tryz.func54, Tryz.ntmps54
  go_wp2
  go_loopw [3] (fun iv wr => iv = .int .i64 0 ∧ w = wr) (fun _ _ => 0)
  case atStart => exact ⟨rfl, rfl⟩
  case round =>
    obtain ⟨rfl, rfl⟩ := hrel
    go_wp2
    go_ret
    exact ⟨rfl, rfl⟩

set_option maxHeartbeats 400000 in
theorem fillDeed_nil {w : World} {B : Nat} {cs : Array Value} (hobj : w.heap[B]? = some (.cells cs bookT (0, 0))) (hcs : cs[12]? = some nilV) :
    Calls Tryz.prog 31 #[.pointer (some ⟨B, 0, none⟩)] w fun e w' => e = .returned (.tuple #[]) ∧ w = w' := by
  have hc : w.cell? ⟨B, 12, none⟩ = some nilV := by rw [heap_cell hobj]; exact hcs
  clear hobj hcs
  go_enter Tryz.func31, Tryz.ntmps31
  go_wp2
  go_loopw [2] (fun iv wr => iv = .int .i64 0 ∧ w = wr) (fun _ _ => 0)
  case atStart => exact ⟨rfl, rfl⟩
  case round =>
    obtain ⟨rfl, rfl⟩ := hrel
    go_wp2
    go_end0
    exact ⟨rfl, rfl⟩

set_option maxHeartbeats 400000 in
theorem growDeed_nil {w : World} {B : Nat} {cs : Array Value} (hobj : w.heap[B]? = some (.cells cs bookT (0, 0))) (hcs : cs[12]? = some nilV) :
    Calls Tryz.prog 43 #[.pointer (some ⟨B, 0, none⟩)] w fun e w' => e = .returned (.tuple #[]) ∧ w = w' := by
  have hc : w.cell? ⟨B, 12, none⟩ = some nilV := by rw [heap_cell hobj]; exact hcs
  clear hobj hcs
  go_enter Tryz.func43, Tryz.ntmps43
  go_wp2
  go_loopw [2] (fun iv wr => iv = .int .i64 0 ∧ w = wr) (fun _ _ => 0)
  case atStart => exact ⟨rfl, rfl⟩
  case round =>
    obtain ⟨rfl, rfl⟩ := hrel
    go_wp2
    go_end0
    exact ⟨rfl, rfl⟩

set_option maxHeartbeats 400000 in
theorem lookDeed_nil {w : World} {B : Nat} {cs : Array Value} (hobj : w.heap[B]? = some (.cells cs bookT (0, 0))) (hcs : cs[12]? = some nilV) :
    Calls Tryz.prog 55 #[.pointer (some ⟨B, 0, none⟩)] w fun e w' => e = .returned (.bool true) ∧ w = w' := by
  have hc : w.cell? ⟨B, 12, none⟩ = some nilV := by rw [heap_cell hobj]; exact hcs
  clear hobj hcs
  go_enter Tryz.func55, Tryz.ntmps55
  go_wp2
  go_loopw [3] (fun iv wr => iv = .int .i64 0 ∧ w = wr) (fun _ _ => 0)
  case atStart => exact ⟨rfl, rfl⟩
  case round =>
    obtain ⟨rfl, rfl⟩ := hrel
    go_wp2
    go_ret
    exact ⟨rfl, rfl⟩

end Go.Proofs.YtbfmneblhlmiiaaGreatDoor
