import Derived.Test.YtanjgeacmpmjhaaGreatDoorProg
import Derived.Test.YtanjgeacmpmjhaaGreatDoorBk0
set_option linter.unusedVariables false
set_option linter.unusedSimpArgs false
set_option linter.unusedSectionVars false
namespace Go.Proofs.YtanjgeacmpmjhaaGreatDoor
open Go.RowKit

set_option maxHeartbeats 400000 in
theorem fillByte_nil {w : World} {B : Nat} {cs : Array Value} (hobj : w.heap[B]? = some (.cells cs bookT (0, 0))) (hcs : cs[1]? = some nilV) :
    Calls Tryz.prog 96 #[.pointer (some ⟨B, 0, none⟩)] w fun e w' => e = .returned (.tuple #[]) ∧ w = w' := by
  have hc : w.cell? ⟨B, 1, none⟩ = some nilV := by rw [heap_cell hobj]; exact hcs
  clear hobj hcs
  go_enter Tryz.func96, Tryz.ntmps96
  go_wp2
  go_loopw [2] (fun iv wr => iv = .int .i64 0 ∧ w = wr) (fun _ _ => 0)
  case atStart => exact ⟨rfl, rfl⟩
  case round =>
    obtain ⟨rfl, rfl⟩ := hrel
    go_wp2
    go_end0
    exact ⟨rfl, rfl⟩

set_option maxHeartbeats 400000 in
theorem growByte_nil {w : World} {B : Nat} {cs : Array Value} (hobj : w.heap[B]? = some (.cells cs bookT (0, 0))) (hcs : cs[1]? = some nilV) :
    Calls Tryz.prog 108 #[.pointer (some ⟨B, 0, none⟩)] w fun e w' => e = .returned (.tuple #[]) ∧ w = w' := by
  have hc : w.cell? ⟨B, 1, none⟩ = some nilV := by rw [heap_cell hobj]; exact hcs
  clear hobj hcs
  go_enter Tryz.func108, Tryz.ntmps108
  go_wp2
  go_loopw [2] (fun iv wr => iv = .int .i64 0 ∧ w = wr) (fun _ _ => 0)
  case atStart => exact ⟨rfl, rfl⟩
  case round =>
    obtain ⟨rfl, rfl⟩ := hrel
    go_wp2
    go_end0
    exact ⟨rfl, rfl⟩

set_option maxHeartbeats 400000 in
theorem lookByte_nil {w : World} {B : Nat} {cs : Array Value} (hobj : w.heap[B]? = some (.cells cs bookT (0, 0))) (hcs : cs[1]? = some nilV) :
    Calls Tryz.prog 120 #[.pointer (some ⟨B, 0, none⟩)] w fun e w' => e = .returned (.bool true) ∧ w = w' := by
  have hc : w.cell? ⟨B, 1, none⟩ = some nilV := by rw [heap_cell hobj]; exact hcs
  clear hobj hcs
  go_enter Tryz.func120, Tryz.ntmps120
  go_wp2
  go_loopw [3] (fun iv wr => iv = .int .i64 0 ∧ w = wr) (fun _ _ => 0)
  case atStart => exact ⟨rfl, rfl⟩
  case round =>
    obtain ⟨rfl, rfl⟩ := hrel
    go_wp2
    go_ret
    exact ⟨rfl, rfl⟩

set_option maxHeartbeats 400000 in
theorem fillId_nil {w : World} {B : Nat} {cs : Array Value} (hobj : w.heap[B]? = some (.cells cs bookT (0, 0))) (hcs : cs[2]? = some nilV) :
    Calls Tryz.prog 97 #[.pointer (some ⟨B, 0, none⟩)] w fun e w' => e = .returned (.tuple #[]) ∧ w = w' := by
  have hc : w.cell? ⟨B, 2, none⟩ = some nilV := by rw [heap_cell hobj]; exact hcs
  clear hobj hcs
  go_enter Tryz.func97, Tryz.ntmps97
  go_wp2
  go_loopw [2] (fun iv wr => iv = .int .i64 0 ∧ w = wr) (fun _ _ => 0)
  case atStart => exact ⟨rfl, rfl⟩
  case round =>
    obtain ⟨rfl, rfl⟩ := hrel
    go_wp2
    go_end0
    exact ⟨rfl, rfl⟩

set_option maxHeartbeats 400000 in
theorem growId_nil {w : World} {B : Nat} {cs : Array Value} (hobj : w.heap[B]? = some (.cells cs bookT (0, 0))) (hcs : cs[2]? = some nilV) :
    Calls Tryz.prog 109 #[.pointer (some ⟨B, 0, none⟩)] w fun e w' => e = .returned (.tuple #[]) ∧ w = w' := by
  have hc : w.cell? ⟨B, 2, none⟩ = some nilV := by rw [heap_cell hobj]; exact hcs
  clear hobj hcs
  go_enter Tryz.func109, Tryz.ntmps109
  go_wp2
  go_loopw [2] (fun iv wr => iv = .int .i64 0 ∧ w = wr) (fun _ _ => 0)
  case atStart => exact ⟨rfl, rfl⟩
  case round =>
    obtain ⟨rfl, rfl⟩ := hrel
    go_wp2
    go_end0
    exact ⟨rfl, rfl⟩

set_option maxHeartbeats 400000 in
theorem lookId_nil {w : World} {B : Nat} {cs : Array Value} (hobj : w.heap[B]? = some (.cells cs bookT (0, 0))) (hcs : cs[2]? = some nilV) :
    Calls Tryz.prog 121 #[.pointer (some ⟨B, 0, none⟩)] w fun e w' => e = .returned (.bool true) ∧ w = w' := by
  have hc : w.cell? ⟨B, 2, none⟩ = some nilV := by rw [heap_cell hobj]; exact hcs
  clear hobj hcs
  go_enter Tryz.func121, Tryz.ntmps121
  go_wp2
  go_loopw [3] (fun iv wr => iv = .int .i64 0 ∧ w = wr) (fun _ _ => 0)
  case atStart => exact ⟨rfl, rfl⟩
  case round =>
    obtain ⟨rfl, rfl⟩ := hrel
    go_wp2
    go_ret
    exact ⟨rfl, rfl⟩

set_option maxHeartbeats 400000 in
theorem fillInt_nil {w : World} {B : Nat} {cs : Array Value} (hobj : w.heap[B]? = some (.cells cs bookT (0, 0))) (hcs : cs[3]? = some nilV) :
    Calls Tryz.prog 98 #[.pointer (some ⟨B, 0, none⟩)] w fun e w' => e = .returned (.tuple #[]) ∧ w = w' := by
  have hc : w.cell? ⟨B, 3, none⟩ = some nilV := by rw [heap_cell hobj]; exact hcs
  clear hobj hcs
  go_enter Tryz.func98, Tryz.ntmps98
  go_wp2
  go_loopw [2] (fun iv wr => iv = .int .i64 0 ∧ w = wr) (fun _ _ => 0)
  case atStart => exact ⟨rfl, rfl⟩
  case round =>
    obtain ⟨rfl, rfl⟩ := hrel
    go_wp2
    go_end0
    exact ⟨rfl, rfl⟩

set_option maxHeartbeats 400000 in
theorem growInt_nil {w : World} {B : Nat} {cs : Array Value} (hobj : w.heap[B]? = some (.cells cs bookT (0, 0))) (hcs : cs[3]? = some nilV) :
    Calls Tryz.prog 110 #[.pointer (some ⟨B, 0, none⟩)] w fun e w' => e = .returned (.tuple #[]) ∧ w = w' := by
  have hc : w.cell? ⟨B, 3, none⟩ = some nilV := by rw [heap_cell hobj]; exact hcs
  clear hobj hcs
  go_enter Tryz.func110, Tryz.ntmps110
  go_wp2
  go_loopw [2] (fun iv wr => iv = .int .i64 0 ∧ w = wr) (fun _ _ => 0)
  case atStart => exact ⟨rfl, rfl⟩
  case round =>
    obtain ⟨rfl, rfl⟩ := hrel
    go_wp2
    go_end0
    exact ⟨rfl, rfl⟩

set_option maxHeartbeats 400000 in
theorem lookInt_nil {w : World} {B : Nat} {cs : Array Value} (hobj : w.heap[B]? = some (.cells cs bookT (0, 0))) (hcs : cs[3]? = some nilV) :
    Calls Tryz.prog 122 #[.pointer (some ⟨B, 0, none⟩)] w fun e w' => e = .returned (.bool true) ∧ w = w' := by
  have hc : w.cell? ⟨B, 3, none⟩ = some nilV := by rw [heap_cell hobj]; exact hcs
  clear hobj hcs
  go_enter Tryz.func122, Tryz.ntmps122
  go_wp2
  go_loopw [3] (fun iv wr => iv = .int .i64 0 ∧ w = wr) (fun _ _ => 0)
  case atStart => exact ⟨rfl, rfl⟩
  case round =>
    obtain ⟨rfl, rfl⟩ := hrel
    go_wp2
    go_ret
    exact ⟨rfl, rfl⟩

set_option maxHeartbeats 400000 in
theorem fillText_nil {w : World} {B : Nat} {cs : Array Value} (hobj : w.heap[B]? = some (.cells cs bookT (0, 0))) (hcs : cs[4]? = some nilV) :
    Calls Tryz.prog 99 #[.pointer (some ⟨B, 0, none⟩)] w fun e w' => e = .returned (.tuple #[]) ∧ w = w' := by
  have hc : w.cell? ⟨B, 4, none⟩ = some nilV := by rw [heap_cell hobj]; exact hcs
  clear hobj hcs
  go_enter Tryz.func99, Tryz.ntmps99
  go_wp2
  go_loopw [2] (fun iv wr => iv = .int .i64 0 ∧ w = wr) (fun _ _ => 0)
  case atStart => exact ⟨rfl, rfl⟩
  case round =>
    obtain ⟨rfl, rfl⟩ := hrel
    go_wp2
    go_end0
    exact ⟨rfl, rfl⟩

set_option maxHeartbeats 400000 in
theorem growText_nil {w : World} {B : Nat} {cs : Array Value} (hobj : w.heap[B]? = some (.cells cs bookT (0, 0))) (hcs : cs[4]? = some nilV) :
    Calls Tryz.prog 111 #[.pointer (some ⟨B, 0, none⟩)] w fun e w' => e = .returned (.tuple #[]) ∧ w = w' := by
  have hc : w.cell? ⟨B, 4, none⟩ = some nilV := by rw [heap_cell hobj]; exact hcs
  clear hobj hcs
  go_enter Tryz.func111, Tryz.ntmps111
  go_wp2
  go_loopw [2] (fun iv wr => iv = .int .i64 0 ∧ w = wr) (fun _ _ => 0)
  case atStart => exact ⟨rfl, rfl⟩
  case round =>
    obtain ⟨rfl, rfl⟩ := hrel
    go_wp2
    go_end0
    exact ⟨rfl, rfl⟩

set_option maxHeartbeats 400000 in
theorem lookText_nil {w : World} {B : Nat} {cs : Array Value} (hobj : w.heap[B]? = some (.cells cs bookT (0, 0))) (hcs : cs[4]? = some nilV) :
    Calls Tryz.prog 123 #[.pointer (some ⟨B, 0, none⟩)] w fun e w' => e = .returned (.bool true) ∧ w = w' := by
  have hc : w.cell? ⟨B, 4, none⟩ = some nilV := by rw [heap_cell hobj]; exact hcs
  clear hobj hcs
  go_enter Tryz.func123, Tryz.ntmps123
  go_wp2
  go_loopw [3] (fun iv wr => iv = .int .i64 0 ∧ w = wr) (fun _ _ => 0)
  case atStart => exact ⟨rfl, rfl⟩
  case round =>
    obtain ⟨rfl, rfl⟩ := hrel
    go_wp2
    go_ret
    exact ⟨rfl, rfl⟩

set_option maxHeartbeats 400000 in
theorem fillRow_nil {w : World} {B : Nat} {cs : Array Value} (hobj : w.heap[B]? = some (.cells cs bookT (0, 0))) (hcs : cs[5]? = some nilV) :
    Calls Tryz.prog 100 #[.pointer (some ⟨B, 0, none⟩)] w fun e w' => e = .returned (.tuple #[]) ∧ w = w' := by
  have hc : w.cell? ⟨B, 5, none⟩ = some nilV := by rw [heap_cell hobj]; exact hcs
  clear hobj hcs
  go_enter Tryz.func100, Tryz.ntmps100
  go_wp2
  go_loopw [2] (fun iv wr => iv = .int .i64 0 ∧ w = wr) (fun _ _ => 0)
  case atStart => exact ⟨rfl, rfl⟩
  case round =>
    obtain ⟨rfl, rfl⟩ := hrel
    go_wp2
    go_end0
    exact ⟨rfl, rfl⟩

set_option maxHeartbeats 400000 in
theorem growRow_nil {w : World} {B : Nat} {cs : Array Value} (hobj : w.heap[B]? = some (.cells cs bookT (0, 0))) (hcs : cs[5]? = some nilV) :
    Calls Tryz.prog 112 #[.pointer (some ⟨B, 0, none⟩)] w fun e w' => e = .returned (.tuple #[]) ∧ w = w' := by
  have hc : w.cell? ⟨B, 5, none⟩ = some nilV := by rw [heap_cell hobj]; exact hcs
  clear hobj hcs
  go_enter Tryz.func112, Tryz.ntmps112
  go_wp2
  go_loopw [2] (fun iv wr => iv = .int .i64 0 ∧ w = wr) (fun _ _ => 0)
  case atStart => exact ⟨rfl, rfl⟩
  case round =>
    obtain ⟨rfl, rfl⟩ := hrel
    go_wp2
    go_end0
    exact ⟨rfl, rfl⟩

set_option maxHeartbeats 400000 in
theorem lookRow_nil {w : World} {B : Nat} {cs : Array Value} (hobj : w.heap[B]? = some (.cells cs bookT (0, 0))) (hcs : cs[5]? = some nilV) :
    Calls Tryz.prog 124 #[.pointer (some ⟨B, 0, none⟩)] w fun e w' => e = .returned (.bool true) ∧ w = w' := by
  have hc : w.cell? ⟨B, 5, none⟩ = some nilV := by rw [heap_cell hobj]; exact hcs
  clear hobj hcs
  go_enter Tryz.func124, Tryz.ntmps124
  go_wp2
  go_loopw [3] (fun iv wr => iv = .int .i64 0 ∧ w = wr) (fun _ _ => 0)
  case atStart => exact ⟨rfl, rfl⟩
  case round =>
    obtain ⟨rfl, rfl⟩ := hrel
    go_wp2
    go_ret
    exact ⟨rfl, rfl⟩

set_option maxHeartbeats 400000 in
theorem fillOp_nil {w : World} {B : Nat} {cs : Array Value} (hobj : w.heap[B]? = some (.cells cs bookT (0, 0))) (hcs : cs[6]? = some nilV) :
    Calls Tryz.prog 101 #[.pointer (some ⟨B, 0, none⟩)] w fun e w' => e = .returned (.tuple #[]) ∧ w = w' := by
  have hc : w.cell? ⟨B, 6, none⟩ = some nilV := by rw [heap_cell hobj]; exact hcs
  clear hobj hcs
  go_enter Tryz.func101, Tryz.ntmps101
  go_wp2
  go_loopw [2] (fun iv wr => iv = .int .i64 0 ∧ w = wr) (fun _ _ => 0)
  case atStart => exact ⟨rfl, rfl⟩
  case round =>
    obtain ⟨rfl, rfl⟩ := hrel
    go_wp2
    go_end0
    exact ⟨rfl, rfl⟩

set_option maxHeartbeats 400000 in
theorem growOp_nil {w : World} {B : Nat} {cs : Array Value} (hobj : w.heap[B]? = some (.cells cs bookT (0, 0))) (hcs : cs[6]? = some nilV) :
    Calls Tryz.prog 113 #[.pointer (some ⟨B, 0, none⟩)] w fun e w' => e = .returned (.tuple #[]) ∧ w = w' := by
  have hc : w.cell? ⟨B, 6, none⟩ = some nilV := by rw [heap_cell hobj]; exact hcs
  clear hobj hcs
  go_enter Tryz.func113, Tryz.ntmps113
  go_wp2
  go_loopw [2] (fun iv wr => iv = .int .i64 0 ∧ w = wr) (fun _ _ => 0)
  case atStart => exact ⟨rfl, rfl⟩
  case round =>
    obtain ⟨rfl, rfl⟩ := hrel
    go_wp2
    go_end0
    exact ⟨rfl, rfl⟩

set_option maxHeartbeats 400000 in
theorem lookOp_nil {w : World} {B : Nat} {cs : Array Value} (hobj : w.heap[B]? = some (.cells cs bookT (0, 0))) (hcs : cs[6]? = some nilV) :
    Calls Tryz.prog 125 #[.pointer (some ⟨B, 0, none⟩)] w fun e w' => e = .returned (.bool true) ∧ w = w' := by
  have hc : w.cell? ⟨B, 6, none⟩ = some nilV := by rw [heap_cell hobj]; exact hcs
  clear hobj hcs
  go_enter Tryz.func125, Tryz.ntmps125
  go_wp2
  go_loopw [3] (fun iv wr => iv = .int .i64 0 ∧ w = wr) (fun _ _ => 0)
  case atStart => exact ⟨rfl, rfl⟩
  case round =>
    obtain ⟨rfl, rfl⟩ := hrel
    go_wp2
    go_ret
    exact ⟨rfl, rfl⟩

set_option maxHeartbeats 400000 in
theorem fillSpan_nil {w : World} {B : Nat} {cs : Array Value} (hobj : w.heap[B]? = some (.cells cs bookT (0, 0))) (hcs : cs[7]? = some nilV) :
    Calls Tryz.prog 102 #[.pointer (some ⟨B, 0, none⟩)] w fun e w' => e = .returned (.tuple #[]) ∧ w = w' := by
  have hc : w.cell? ⟨B, 7, none⟩ = some nilV := by rw [heap_cell hobj]; exact hcs
  clear hobj hcs
  go_enter Tryz.func102, Tryz.ntmps102
  go_wp2
  go_loopw [2] (fun iv wr => iv = .int .i64 0 ∧ w = wr) (fun _ _ => 0)
  case atStart => exact ⟨rfl, rfl⟩
  case round =>
    obtain ⟨rfl, rfl⟩ := hrel
    go_wp2
    go_end0
    exact ⟨rfl, rfl⟩

set_option maxHeartbeats 400000 in
theorem growSpan_nil {w : World} {B : Nat} {cs : Array Value} (hobj : w.heap[B]? = some (.cells cs bookT (0, 0))) (hcs : cs[7]? = some nilV) :
    Calls Tryz.prog 114 #[.pointer (some ⟨B, 0, none⟩)] w fun e w' => e = .returned (.tuple #[]) ∧ w = w' := by
  have hc : w.cell? ⟨B, 7, none⟩ = some nilV := by rw [heap_cell hobj]; exact hcs
  clear hobj hcs
  go_enter Tryz.func114, Tryz.ntmps114
  go_wp2
  go_loopw [2] (fun iv wr => iv = .int .i64 0 ∧ w = wr) (fun _ _ => 0)
  case atStart => exact ⟨rfl, rfl⟩
  case round =>
    obtain ⟨rfl, rfl⟩ := hrel
    go_wp2
    go_end0
    exact ⟨rfl, rfl⟩

set_option maxHeartbeats 400000 in
theorem lookSpan_nil {w : World} {B : Nat} {cs : Array Value} (hobj : w.heap[B]? = some (.cells cs bookT (0, 0))) (hcs : cs[7]? = some nilV) :
    Calls Tryz.prog 126 #[.pointer (some ⟨B, 0, none⟩)] w fun e w' => e = .returned (.bool true) ∧ w = w' := by
  have hc : w.cell? ⟨B, 7, none⟩ = some nilV := by rw [heap_cell hobj]; exact hcs
  clear hobj hcs
  go_enter Tryz.func126, Tryz.ntmps126
  go_wp2
  go_loopw [3] (fun iv wr => iv = .int .i64 0 ∧ w = wr) (fun _ _ => 0)
  case atStart => exact ⟨rfl, rfl⟩
  case round =>
    obtain ⟨rfl, rfl⟩ := hrel
    go_wp2
    go_ret
    exact ⟨rfl, rfl⟩

set_option maxHeartbeats 400000 in
theorem fillChange_nil {w : World} {B : Nat} {cs : Array Value} (hobj : w.heap[B]? = some (.cells cs bookT (0, 0))) (hcs : cs[8]? = some nilV) :
    Calls Tryz.prog 103 #[.pointer (some ⟨B, 0, none⟩)] w fun e w' => e = .returned (.tuple #[]) ∧ w = w' := by
  have hc : w.cell? ⟨B, 8, none⟩ = some nilV := by rw [heap_cell hobj]; exact hcs
  clear hobj hcs
  go_enter Tryz.func103, Tryz.ntmps103
  go_wp2
  go_loopw [2] (fun iv wr => iv = .int .i64 0 ∧ w = wr) (fun _ _ => 0)
  case atStart => exact ⟨rfl, rfl⟩
  case round =>
    obtain ⟨rfl, rfl⟩ := hrel
    go_wp2
    go_end0
    exact ⟨rfl, rfl⟩

set_option maxHeartbeats 400000 in
theorem growChange_nil {w : World} {B : Nat} {cs : Array Value} (hobj : w.heap[B]? = some (.cells cs bookT (0, 0))) (hcs : cs[8]? = some nilV) :
    Calls Tryz.prog 115 #[.pointer (some ⟨B, 0, none⟩)] w fun e w' => e = .returned (.tuple #[]) ∧ w = w' := by
  have hc : w.cell? ⟨B, 8, none⟩ = some nilV := by rw [heap_cell hobj]; exact hcs
  clear hobj hcs
  go_enter Tryz.func115, Tryz.ntmps115
  go_wp2
  go_loopw [2] (fun iv wr => iv = .int .i64 0 ∧ w = wr) (fun _ _ => 0)
  case atStart => exact ⟨rfl, rfl⟩
  case round =>
    obtain ⟨rfl, rfl⟩ := hrel
    go_wp2
    go_end0
    exact ⟨rfl, rfl⟩

set_option maxHeartbeats 400000 in
theorem lookChange_nil {w : World} {B : Nat} {cs : Array Value} (hobj : w.heap[B]? = some (.cells cs bookT (0, 0))) (hcs : cs[8]? = some nilV) :
    Calls Tryz.prog 127 #[.pointer (some ⟨B, 0, none⟩)] w fun e w' => e = .returned (.bool true) ∧ w = w' := by
  have hc : w.cell? ⟨B, 8, none⟩ = some nilV := by rw [heap_cell hobj]; exact hcs
  clear hobj hcs
  go_enter Tryz.func127, Tryz.ntmps127
  go_wp2
  go_loopw [3] (fun iv wr => iv = .int .i64 0 ∧ w = wr) (fun _ _ => 0)
  case atStart => exact ⟨rfl, rfl⟩
  case round =>
    obtain ⟨rfl, rfl⟩ := hrel
    go_wp2
    go_ret
    exact ⟨rfl, rfl⟩

set_option maxHeartbeats 400000 in
theorem fillResult_nil {w : World} {B : Nat} {cs : Array Value} (hobj : w.heap[B]? = some (.cells cs bookT (0, 0))) (hcs : cs[9]? = some nilV) :
    Calls Tryz.prog 104 #[.pointer (some ⟨B, 0, none⟩)] w fun e w' => e = .returned (.tuple #[]) ∧ w = w' := by
  have hc : w.cell? ⟨B, 9, none⟩ = some nilV := by rw [heap_cell hobj]; exact hcs
  clear hobj hcs
  go_enter Tryz.func104, Tryz.ntmps104
  go_wp2
  go_loopw [2] (fun iv wr => iv = .int .i64 0 ∧ w = wr) (fun _ _ => 0)
  case atStart => exact ⟨rfl, rfl⟩
  case round =>
    obtain ⟨rfl, rfl⟩ := hrel
    go_wp2
    go_end0
    exact ⟨rfl, rfl⟩

set_option maxHeartbeats 400000 in
theorem growResult_nil {w : World} {B : Nat} {cs : Array Value} (hobj : w.heap[B]? = some (.cells cs bookT (0, 0))) (hcs : cs[9]? = some nilV) :
    Calls Tryz.prog 116 #[.pointer (some ⟨B, 0, none⟩)] w fun e w' => e = .returned (.tuple #[]) ∧ w = w' := by
  have hc : w.cell? ⟨B, 9, none⟩ = some nilV := by rw [heap_cell hobj]; exact hcs
  clear hobj hcs
  go_enter Tryz.func116, Tryz.ntmps116
  go_wp2
  go_loopw [2] (fun iv wr => iv = .int .i64 0 ∧ w = wr) (fun _ _ => 0)
  case atStart => exact ⟨rfl, rfl⟩
  case round =>
    obtain ⟨rfl, rfl⟩ := hrel
    go_wp2
    go_end0
    exact ⟨rfl, rfl⟩

set_option maxHeartbeats 400000 in
theorem lookResult_nil {w : World} {B : Nat} {cs : Array Value} (hobj : w.heap[B]? = some (.cells cs bookT (0, 0))) (hcs : cs[9]? = some nilV) :
    Calls Tryz.prog 128 #[.pointer (some ⟨B, 0, none⟩)] w fun e w' => e = .returned (.bool true) ∧ w = w' := by
  have hc : w.cell? ⟨B, 9, none⟩ = some nilV := by rw [heap_cell hobj]; exact hcs
  clear hobj hcs
  go_enter Tryz.func128, Tryz.ntmps128
  go_wp2
  go_loopw [3] (fun iv wr => iv = .int .i64 0 ∧ w = wr) (fun _ _ => 0)
  case atStart => exact ⟨rfl, rfl⟩
  case round =>
    obtain ⟨rfl, rfl⟩ := hrel
    go_wp2
    go_ret
    exact ⟨rfl, rfl⟩

set_option maxHeartbeats 400000 in
theorem fillMsg_nil {w : World} {B : Nat} {cs : Array Value} (hobj : w.heap[B]? = some (.cells cs bookT (0, 0))) (hcs : cs[10]? = some nilV) :
    Calls Tryz.prog 105 #[.pointer (some ⟨B, 0, none⟩)] w fun e w' => e = .returned (.tuple #[]) ∧ w = w' := by
  have hc : w.cell? ⟨B, 10, none⟩ = some nilV := by rw [heap_cell hobj]; exact hcs
  clear hobj hcs
  go_enter Tryz.func105, Tryz.ntmps105
  go_wp2
  go_loopw [2] (fun iv wr => iv = .int .i64 0 ∧ w = wr) (fun _ _ => 0)
  case atStart => exact ⟨rfl, rfl⟩
  case round =>
    obtain ⟨rfl, rfl⟩ := hrel
    go_wp2
    go_end0
    exact ⟨rfl, rfl⟩

set_option maxHeartbeats 400000 in
theorem growMsg_nil {w : World} {B : Nat} {cs : Array Value} (hobj : w.heap[B]? = some (.cells cs bookT (0, 0))) (hcs : cs[10]? = some nilV) :
    Calls Tryz.prog 117 #[.pointer (some ⟨B, 0, none⟩)] w fun e w' => e = .returned (.tuple #[]) ∧ w = w' := by
  have hc : w.cell? ⟨B, 10, none⟩ = some nilV := by rw [heap_cell hobj]; exact hcs
  clear hobj hcs
  go_enter Tryz.func117, Tryz.ntmps117
  go_wp2
  go_loopw [2] (fun iv wr => iv = .int .i64 0 ∧ w = wr) (fun _ _ => 0)
  case atStart => exact ⟨rfl, rfl⟩
  case round =>
    obtain ⟨rfl, rfl⟩ := hrel
    go_wp2
    go_end0
    exact ⟨rfl, rfl⟩

set_option maxHeartbeats 400000 in
theorem lookMsg_nil {w : World} {B : Nat} {cs : Array Value} (hobj : w.heap[B]? = some (.cells cs bookT (0, 0))) (hcs : cs[10]? = some nilV) :
    Calls Tryz.prog 129 #[.pointer (some ⟨B, 0, none⟩)] w fun e w' => e = .returned (.bool true) ∧ w = w' := by
  have hc : w.cell? ⟨B, 10, none⟩ = some nilV := by rw [heap_cell hobj]; exact hcs
  clear hobj hcs
  go_enter Tryz.func129, Tryz.ntmps129
  go_wp2
  go_loopw [3] (fun iv wr => iv = .int .i64 0 ∧ w = wr) (fun _ _ => 0)
  case atStart => exact ⟨rfl, rfl⟩
  case round =>
    obtain ⟨rfl, rfl⟩ := hrel
    go_wp2
    go_ret
    exact ⟨rfl, rfl⟩

set_option maxHeartbeats 400000 in
theorem fillPart_nil {w : World} {B : Nat} {cs : Array Value} (hobj : w.heap[B]? = some (.cells cs bookT (0, 0))) (hcs : cs[11]? = some nilV) :
    Calls Tryz.prog 106 #[.pointer (some ⟨B, 0, none⟩)] w fun e w' => e = .returned (.tuple #[]) ∧ w = w' := by
  have hc : w.cell? ⟨B, 11, none⟩ = some nilV := by rw [heap_cell hobj]; exact hcs
  clear hobj hcs
  go_enter Tryz.func106, Tryz.ntmps106
  go_wp2
  go_loopw [2] (fun iv wr => iv = .int .i64 0 ∧ w = wr) (fun _ _ => 0)
  case atStart => exact ⟨rfl, rfl⟩
  case round =>
    obtain ⟨rfl, rfl⟩ := hrel
    go_wp2
    go_end0
    exact ⟨rfl, rfl⟩

set_option maxHeartbeats 400000 in
theorem growPart_nil {w : World} {B : Nat} {cs : Array Value} (hobj : w.heap[B]? = some (.cells cs bookT (0, 0))) (hcs : cs[11]? = some nilV) :
    Calls Tryz.prog 118 #[.pointer (some ⟨B, 0, none⟩)] w fun e w' => e = .returned (.tuple #[]) ∧ w = w' := by
  have hc : w.cell? ⟨B, 11, none⟩ = some nilV := by rw [heap_cell hobj]; exact hcs
  clear hobj hcs
  go_enter Tryz.func118, Tryz.ntmps118
  go_wp2
  go_loopw [2] (fun iv wr => iv = .int .i64 0 ∧ w = wr) (fun _ _ => 0)
  case atStart => exact ⟨rfl, rfl⟩
  case round =>
    obtain ⟨rfl, rfl⟩ := hrel
    go_wp2
    go_end0
    exact ⟨rfl, rfl⟩

set_option maxHeartbeats 400000 in
theorem lookPart_nil {w : World} {B : Nat} {cs : Array Value} (hobj : w.heap[B]? = some (.cells cs bookT (0, 0))) (hcs : cs[11]? = some nilV) :
    Calls Tryz.prog 130 #[.pointer (some ⟨B, 0, none⟩)] w fun e w' => e = .returned (.bool true) ∧ w = w' := by
  have hc : w.cell? ⟨B, 11, none⟩ = some nilV := by rw [heap_cell hobj]; exact hcs
  clear hobj hcs
  go_enter Tryz.func130, Tryz.ntmps130
  go_wp2
  go_loopw [3] (fun iv wr => iv = .int .i64 0 ∧ w = wr) (fun _ _ => 0)
  case atStart => exact ⟨rfl, rfl⟩
  case round =>
    obtain ⟨rfl, rfl⟩ := hrel
    go_wp2
    go_ret
    exact ⟨rfl, rfl⟩

set_option maxHeartbeats 400000 in
theorem fillDeed_nil {w : World} {B : Nat} {cs : Array Value} (hobj : w.heap[B]? = some (.cells cs bookT (0, 0))) (hcs : cs[12]? = some nilV) :
    Calls Tryz.prog 107 #[.pointer (some ⟨B, 0, none⟩)] w fun e w' => e = .returned (.tuple #[]) ∧ w = w' := by
  have hc : w.cell? ⟨B, 12, none⟩ = some nilV := by rw [heap_cell hobj]; exact hcs
  clear hobj hcs
  go_enter Tryz.func107, Tryz.ntmps107
  go_wp2
  go_loopw [2] (fun iv wr => iv = .int .i64 0 ∧ w = wr) (fun _ _ => 0)
  case atStart => exact ⟨rfl, rfl⟩
  case round =>
    obtain ⟨rfl, rfl⟩ := hrel
    go_wp2
    go_end0
    exact ⟨rfl, rfl⟩

set_option maxHeartbeats 400000 in
theorem growDeed_nil {w : World} {B : Nat} {cs : Array Value} (hobj : w.heap[B]? = some (.cells cs bookT (0, 0))) (hcs : cs[12]? = some nilV) :
    Calls Tryz.prog 119 #[.pointer (some ⟨B, 0, none⟩)] w fun e w' => e = .returned (.tuple #[]) ∧ w = w' := by
  have hc : w.cell? ⟨B, 12, none⟩ = some nilV := by rw [heap_cell hobj]; exact hcs
  clear hobj hcs
  go_enter Tryz.func119, Tryz.ntmps119
  go_wp2
  go_loopw [2] (fun iv wr => iv = .int .i64 0 ∧ w = wr) (fun _ _ => 0)
  case atStart => exact ⟨rfl, rfl⟩
  case round =>
    obtain ⟨rfl, rfl⟩ := hrel
    go_wp2
    go_end0
    exact ⟨rfl, rfl⟩

set_option maxHeartbeats 400000 in
theorem lookDeed_nil {w : World} {B : Nat} {cs : Array Value} (hobj : w.heap[B]? = some (.cells cs bookT (0, 0))) (hcs : cs[12]? = some nilV) :
    Calls Tryz.prog 131 #[.pointer (some ⟨B, 0, none⟩)] w fun e w' => e = .returned (.bool true) ∧ w = w' := by
  have hc : w.cell? ⟨B, 12, none⟩ = some nilV := by rw [heap_cell hobj]; exact hcs
  clear hobj hcs
  go_enter Tryz.func131, Tryz.ntmps131
  go_wp2
  go_loopw [3] (fun iv wr => iv = .int .i64 0 ∧ w = wr) (fun _ _ => 0)
  case atStart => exact ⟨rfl, rfl⟩
  case round =>
    obtain ⟨rfl, rfl⟩ := hrel
    go_wp2
    go_ret
    exact ⟨rfl, rfl⟩

/-! ### what an act may have turned, told by the types of its blocks -/
def TurnT (base : Nat) (w w' : World) (ts : List TypeId) : Prop := ∃ F : Nat → Prop, Turn F w w' ∧ ∀ g, F g → base ≤ g ∧ ∃ cur T, w.heap[g]? = some (.cells cur T (0, 0)) ∧ T ∈ ts
theorem TurnT.of_below {base : Nat} {w w' : World} (h : Below w.heap.size w w') : TurnT base w w' [] := ⟨fun _ => False, .of_below h, fun _ h => h.elim⟩
theorem TurnT.below {base : Nat} {w w' : World} {ts : List TypeId} (h : TurnT base w w' ts) (hb : base ≤ w.heap.size) : Below base w w' :=
  let ⟨_, t, hF⟩ := h
  t.below (fun g hg => (hF g hg).1) hb
theorem TurnT.size {base : Nat} {w w' : World} {ts : List TypeId} (h : TurnT base w w' ts) : w.heap.size ≤ w'.heap.size := h.choose_spec.1.size
theorem TurnT.spare {base : Nat} {w w' : World} {ts : List TypeId} (h : TurnT base w w' ts) {g : Nat} {cur : Array Value} {T : TypeId} (hg : w.heap[g]? = some (.cells cur T (0, 0))) (hT : T ∉ ts) : ¬ h.choose g := fun hF => by
  obtain ⟨_, cur', T', e, m⟩ := h.choose_spec.2 g hF
  have := hg.symm.trans e
  simp only [Option.some.injEq, Obj.cells.injEq] at this
  rw [this.2.1] at hT
  exact hT m
theorem TurnT.heap {base : Nat} {w w' : World} {ts : List TypeId} (h : TurnT base w w' ts) {g : Nat} {cur : Array Value} {T : TypeId} (hg : w.heap[g]? = some (.cells cur T (0, 0))) (hT : T ∉ ts) : w'.heap[g]? = some (.cells cur T (0, 0)) :=
  h.choose_spec.1.heap hg (h.spare hg hT)
theorem TurnT.own {α : Type} {enc : α → List Value} {k : Nat} {E : TypeId} {base : Nat} {w w' : World} {v : Value} {xs : List α} {ts : List TypeId} (h : TurnT base w w' ts) (o : Own enc k E base w v xs) (hE : E ∉ ts) : Own enc k E base w' v xs :=
  o.turn h.choose_spec.1 fun g hg => by
    obtain ⟨_, cur, e⟩ := o.typed g hg
    exact h.spare e hE
theorem SameL.nn {hs hs' : List Hd} (h : SameL hs hs') (hn : ∀ h ∈ hs, h.n ≤ 100000 ∧ ∃ A n c, h.long = .slice A n c) : ∀ h ∈ hs', h.n ≤ 100000 := fun x hx => by
  obtain ⟨j, hj⟩ := List.mem_iff_getElem?.1 hx
  obtain ⟨h0, h1, _, h3⟩ := h.2 j x hj
  rw [h3]
  exact (hn h0 (List.mem_of_getElem? h1)).1

end Go.Proofs.YtanjgeacmpmjhaaGreatDoor
