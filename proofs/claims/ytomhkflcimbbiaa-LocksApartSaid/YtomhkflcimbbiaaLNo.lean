import Derived.Test.YtomhkflcimbbiaaProg
import Derived.Test.YtomhkflcimbbiaaBase
import Derived.Deep.RegionHeld3
set_option linter.unusedVariables false
set_option linter.unusedSimpArgs false
set_option linter.unusedSectionVars false
namespace Go.Proofs.Ytomhkflcimbbiaa
open Go.RowKit

attribute [local go_sem] Oper.semAt_some

theorem lmap_under : Try.prog.underlying 26 = some (.map 22 67) := by kernel_rfl
theorem run_lmap_none (w : World) : (binOp .neq 26 (.map none) (.map none)).run Try.prog w = .ok (.bool false) w := by
  have h : ∀ d : Nat, (Op.equalIn (d + 1) 26 (.map none) (.map none)).run Try.prog w = .ok true w := fun d => by
    simp [Op.equalIn, run_underlying lmap_under]
  have h' := h 9999
  rw [show (9999 : Nat) + 1 = Op.maxDepth from rfl] at h'
  simp [binOp, Op.equal, h']
theorem run_lmap_neq (M : Nat) (w : World) : (binOp .neq 26 (.map (some M)) (.map none)).run Try.prog w = .ok (.bool true) w := by
  have h : ∀ d : Nat, (Op.equalIn (d + 1) 26 (.map (some M)) (.map none)).run Try.prog w = .ok false w := fun d => by
    simp [Op.equalIn, run_underlying lmap_under]
  have h' := h 9999
  rw [show (9999 : Nat) + 1 = Op.maxDepth from rfl] at h'
  simp [binOp, Op.equal, h']

/-- No table, or one that no call made. -/
def NoTab (w : World) (p : Option Addr) : Prop := p = none ∨ ∃ B, p = some ⟨B, 0, none⟩ ∧ w.cell? ⟨B, 0, none⟩ = some (.map none)
theorem NoTab.below {w w' : World} {p : Option Addr} (h : NoTab w p) (hb : Below w.heap.size w w') : NoTab w' p := h.imp id fun ⟨B, e, c⟩ => ⟨B, e, Below.cell_some hb c⟩

set_option maxHeartbeats 400000 in
theorem tthere_no {w : World} {p : Option Addr} (h : NoTab w p) : Calls Try.prog 28 #[.pointer p] w fun e w' => e = .returned (.bool false) ∧ w = w' := by
  rcases h with rfl | ⟨B, rfl, c⟩
  · go_enter Try.func28, Try.ntmps28
    go_wp2
    go_ret
    exact ⟨rfl, rfl⟩
  · have hm := run_lmap_none w
    go_enter Try.func28, Try.ntmps28
    go_wp2
    go_ret
    exact ⟨rfl, rfl⟩

set_option maxHeartbeats 400000 in
theorem ask_no {w : World} {p : Option Addr} (h : NoTab w p) (who : Int) (f t : ByteArray) (al : Bool) :
    Calls Try.prog 11 #[.pointer p, .int .u32 who, .agg #[.string f, .string t], .bool al] w fun e w' => e = .returned (.tuple #[.slice none 0 0, .int .i64 2]) ∧ Below w.heap.size w w' := by
  have hb : Below w.heap.size w (w.alloc (.cells #[.string f, .string t] 24)) := (Below.refl _ w).alloc (Nat.le_refl _) _
  go_enter Try.func11, Try.ntmps11
  go_wp2_with (go_at_call 28; refine (tthere_no (h.below hb)).mono ?_; rintro e w1 ⟨rfl, rfl⟩)
  go_ret2
  exact ⟨rfl, hb⟩

set_option maxHeartbeats 400000 in
theorem way_no {w : World} {p : Option Addr} (h : NoTab w p) (who : Int) (f t : ByteArray) (al : Bool) :
    Calls Try.prog 12 #[.pointer p, .int .u32 who, .agg #[.string f, .string t], .bool al] w fun e w' => e = .returned (.slice none 0 0) ∧ Below w.heap.size w w' := by
  have hb : Below w.heap.size w (((w.alloc (.cells #[.string f, .string t] 24)).alloc (.cells #[.bool al] 4)).alloc (.cells #[.slice none 0 0] 30)) := (((Below.refl _ w).alloc (Nat.le_refl _) _).alloc (by simp) _).alloc (by simp; omega) _
  go_enter Try.func12, Try.ntmps12
  go_wp2_with (go_at_call 28; refine (tthere_no (h.below hb)).mono ?_; rintro e w1 ⟨rfl, rfl⟩)
  have hc : (((w.alloc (.cells #[.string f, .string t] 24)).alloc (.cells #[.bool al] 4)).alloc (.cells #[.slice none 0 0] 30)).cell? ⟨w.heap.size + 1 + 1, 0, none⟩ = some (.slice none 0 0) := by rw [World.cell?_alloc_at _ _ _ _ (by simp)]; rfl
  exact bodyPost_ret (v := .slice none 0 0) (by simp [results, Try.results12, go_sem, hc]) rfl ⟨rfl, hb⟩

set_option maxHeartbeats 400000 in
theorem free_no {w : World} {p : Option Addr} (h : NoTab w p) (who : Int) :
    Calls Try.prog 13 #[.pointer p, .int .u32 who] w fun e w' => e = .returned (.int .i64 0) ∧ w = w' := by
  go_enter Try.func13, Try.ntmps13
  go_wp2_with (go_at_call 28; refine (tthere_no h).mono ?_; rintro e w1 ⟨rfl, rfl⟩)
  go_ret
  exact ⟨rfl, rfl⟩

set_option maxHeartbeats 400000 in
theorem has_no {w : World} {p : Option Addr} (h : NoTab w p) (who : Int) :
    Calls Try.prog 14 #[.pointer p, .int .u32 who] w fun e w' => e = .returned (.slice none 0 0) ∧ w = w' := by
  go_enter Try.func14, Try.ntmps14
  go_wp2_with (go_at_call 28; refine (tthere_no h).mono ?_; rintro e w1 ⟨rfl, rfl⟩)
  go_ret
  exact ⟨rfl, rfl⟩

end Go.Proofs.Ytomhkflcimbbiaa
