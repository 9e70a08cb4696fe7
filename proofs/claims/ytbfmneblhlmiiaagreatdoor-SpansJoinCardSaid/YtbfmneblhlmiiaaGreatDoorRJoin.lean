import Derived.Test.YtbfmneblhlmiiaaGreatDoorRJoinP
import Derived.Test.YtbfmneblhlmiiaaGreatDoorRMeet
import Derived.Test.YtbfmneblhlmiiaaGreatDoorApp
import Derived.Test.YtbfmneblhlmiiaaGreatDoorBk0
import Derived.Test.YtbfmneblhlmiiaaGreatDoorTwSpan
import Derived.Deep.RegionHeld3
import Derived.Deep.RegionLaw
import Derived.StillTailTactics
import Derived.Lib.SmallJoins
set_option linter.unusedVariables false
set_option linter.unusedSimpArgs false
set_option linter.unusedSectionVars false
namespace Go.Proofs.YtbfmneblhlmiiaaGreatDoor
open Go.RowKit

abbrev okS2 (x : Span) : Prop := x.f.size ≤ 9223372036854775807 ∧ x.t.size ≤ 9223372036854775807
theorem hull_ok {x y : Span} (hx : okS2 x) (hy : okS2 y) : okS2 (hull x y) := by
  unfold hull smin smax
  refine ⟨?_, ?_⟩
  · simp only; split
    · exact hy.1
    · exact hx.1
  · simp only; split
    · exact hy.2
    · exact hx.2

set_option maxHeartbeats 400000 in
theorem rjoin_calls (a b c d : ByteArray) (w : World) (ha : a.size ≤ 9223372036854775807) (hb : b.size ≤ 9223372036854775807) (hc : c.size ≤ 9223372036854775807) (hd : d.size ≤ 9223372036854775807) :
    Calls Tryz.prog 17 #[.agg #[.string a, .string b], .agg #[.string c, .string d]] w fun e w' => e = .returned (.agg #[.string (hull ⟨a, b⟩ ⟨c, d⟩).f, .string (hull ⟨a, b⟩ ⟨c, d⟩).t]) ∧ Below w.heap.size w w' := by
  have b1 : Below w.heap.size w (w.alloc (.cells #[.string a, .string b] 44)) := (Below.refl _ w).alloc (Nat.le_refl _) _
  have b2 : Below (w.heap.size + 1) (w.alloc (.cells #[.string a, .string b] 44)) ((w.alloc (.cells #[.string a, .string b] 44)).alloc (.cells #[.string c, .string d] 44)) := (Below.refl _ _).alloc (by simp) _
  have b3 : Below (w.heap.size + 1 + 1) ((w.alloc (.cells #[.string a, .string b] 44)).alloc (.cells #[.string c, .string d] 44)) (((w.alloc (.cells #[.string a, .string b] 44)).alloc (.cells #[.string c, .string d] 44)).alloc (.cells #[.string ⟨#[]⟩, .string ⟨#[]⟩] 44)) := (Below.refl _ _).alloc (by simp) _
  have o0 := (b3.block w.heap.size (by omega)).trans ((b2.block w.heap.size (by omega)).trans (alloc_new w (.cells #[.string a, .string b] 44)))
  have o1 := (b3.block (w.heap.size + 1) (by omega)).trans (alloc_newH (w := w.alloc (.cells #[.string a, .string b] 44)) (by simp) (.cells #[.string c, .string d] 44))
  have o2 : (((w.alloc (.cells #[.string a, .string b] 44)).alloc (.cells #[.string c, .string d] 44)).alloc (.cells #[.string ⟨#[]⟩, .string ⟨#[]⟩] 44)).heap[w.heap.size + 1 + 1]? = some (.cells #[.string ⟨#[]⟩, .string ⟨#[]⟩] 44 (0, 0)) := alloc_newH (by simp) _
  have hB : Below w.heap.size w (((w.alloc (.cells #[.string a, .string b] 44)).alloc (.cells #[.string c, .string d] 44)).alloc (.cells #[.string ⟨#[]⟩, .string ⟨#[]⟩] 44)) := (b1.trans (b2.mono (by omega))).trans (b3.mono (by omega))
  have hS : (((w.alloc (.cells #[.string a, .string b] 44)).alloc (.cells #[.string c, .string d] 44)).alloc (.cells #[.string ⟨#[]⟩, .string ⟨#[]⟩] 44)).heap.size = w.heap.size + 3 := by simp
  clear b1 b2 b3
  generalize hW : (((w.alloc (.cells #[.string a, .string b] 44)).alloc (.cells #[.string c, .string d] 44)).alloc (.cells #[.string ⟨#[]⟩, .string ⟨#[]⟩] 44)) = W at *
  have HW := Lib.hid hW
  clear hW
  have hlast : ∀ (W' : World) (x y : ByteArray), Below w.heap.size w W' → W'.heap[w.heap.size + 1 + 1]? = some (.cells #[.string ⟨#[]⟩, .string ⟨#[]⟩] 44 (0, 0)) →
      ((W'.setCell ⟨w.heap.size + 1 + 1, 0, none⟩ (.string x)).setCell ⟨w.heap.size + 1 + 1, 1, none⟩ (.string y)).heap[w.heap.size + 1 + 1]? = some (.cells #[.string x, .string y] 44 (0, 0)) ∧
      Below w.heap.size w ((W'.setCell ⟨w.heap.size + 1 + 1, 0, none⟩ (.string x)).setCell ⟨w.heap.size + 1 + 1, 1, none⟩ (.string y)) := fun W' x y hb ho =>
    ⟨Joins.block_setCell (i := 1) (Joins.block_setCell (i := 0) ho (.string x)) (.string y), (hb.setCell (by simp; omega) _).setCell (by simp; omega) _⟩
  have HLAST := Lib.hid hlast
  clear hlast
  have l1 := fun W' => less_calls c a W' hc ha
  have l2 := fun W' => less_calls b d W' hb hd
  have n01 : ¬ w.heap.size = w.heap.size + 1 := by omega
  have n10 : ¬ w.heap.size + 1 = w.heap.size := by omega
  have n02 : ¬ w.heap.size = w.heap.size + 1 + 1 := by omega
  have n20 : ¬ w.heap.size + 1 + 1 = w.heap.size := by omega
  have n12 : ¬ w.heap.size + 1 = w.heap.size + 1 + 1 := by omega
  have n21 : ¬ w.heap.size + 1 + 1 = w.heap.size + 1 := by omega
  unfold hull smin smax
  simp only
  cases h1 : slt c a <;> cases h2 : slt b d
  all_goals
    simp only [h1, h2] at l1 l2
    go_enter Tryz.func17, Tryz.ntmps17
    go_wp2_with fail
    rw [HW.out]
    clear HW
    have a0 := heap_cell o0 0
    have a1 := heap_cell o0 1
    have a2 := heap_cell o1 0
    have a3 := heap_cell o1 1
    simp only [List.getElem?_toArray, List.getElem?_cons_zero, List.getElem?_cons_succ] at a0 a1 a2 a3
    go_wp2_with (first
      | (go_at_call 18; refine (l1 _).mono ?_; rintro e w1 ⟨rfl, hb1⟩; clear l1; replace o0 := (hb1.block _ (by omega)).trans o0; replace o1 := (hb1.block _ (by omega)).trans o1; replace o2 := (hb1.block _ (by omega)).trans o2; replace hB := Below.step hB hb1; have hs1 : w.heap.size + 3 ≤ w1.heap.size := (by have := hb1.size; omega)
         clear hb1 hS a0 a1 a2 a3; have a0 := heap_cell o0 0; have a1 := heap_cell o0 1; have a2 := heap_cell o1 0; have a3 := heap_cell o1 1; simp only [List.getElem?_toArray, List.getElem?_cons_zero, List.getElem?_cons_succ] at a0 a1 a2 a3; have f0 := heap_free o0 0; have f1 := heap_free o0 1)
      | (go_at_call 18; refine (l2 _).mono ?_; rintro e w2 ⟨rfl, hb2⟩; clear l2
         have p0 := (hb2.block w.heap.size (by first | omega | (simp; omega))).trans (by first | exact o0 | exact Joins.block_setCell (i := 0) o0 (.string c))
         have p1 := (hb2.block (w.heap.size + 1) (by first | omega | (simp; omega))).trans (by first | exact o1 | exact (Turn.setCell w1 w.heap.size 0 (.string c)).heap o1 (by omega))
         have p2 := (hb2.block (w.heap.size + 1 + 1) (by first | omega | (simp; omega))).trans (by first | exact o2 | exact (Turn.setCell w1 w.heap.size 0 (.string c)).heap o2 (by omega))
         have hB2 : Below w.heap.size w w2 := Below.step (by first | exact hB | exact hB.setCell (Nat.le_refl _) _) hb2
         clear hb2 o0 o1 o2 hB a0 a1 a2 a3 f0 f1
         try simp only [List.setIfInBounds_toArray, List.set_cons_zero] at p0
         have a0 := heap_cell p0 0; have a1 := heap_cell p0 1; have a2 := heap_cell p1 0; have a3 := heap_cell p1 1; simp only [List.getElem?_toArray, List.getElem?_cons_zero, List.getElem?_cons_succ] at a0 a1 a2 a3; have f1 := heap_free p0 1; have f2 := heap_free p2 0; have f3 := heap_free p2 1; have r0 := heap_cell p2 0; have r1 := heap_cell p2 1; simp only [List.getElem?_toArray, List.getElem?_cons_zero, List.getElem?_cons_succ] at r0 r1))
    first
      | (have h2' : slt b d = false := h2
         have hq := fun x y => HLAST.out _ x y hB2 p2
         exact bodyPost_ret (results_cell_row rfl _ _ (w.heap.size + 1 + 1) _ _ _ _ rfl (hq _ _).1 Tryz.underlying44 rfl (by kernel_rfl)) rfl ⟨rfl, (hq _ _).2⟩)
      | (have hq := fun x y => HLAST.out _ x y (hB2.setCell (Nat.le_refl _) (.string d) (p := ⟨w.heap.size, 1, none⟩)) ((Turn.setCell w2 w.heap.size 1 (.string d)).heap p2 (by omega))
         exact bodyPost_ret (results_cell_row rfl _ _ (w.heap.size + 1 + 1) _ _ _ _ rfl (hq _ _).1 Tryz.underlying44 rfl (by kernel_rfl)) rfl ⟨rfl, (hq _ _).2⟩)

end Go.Proofs.YtbfmneblhlmiiaaGreatDoor
