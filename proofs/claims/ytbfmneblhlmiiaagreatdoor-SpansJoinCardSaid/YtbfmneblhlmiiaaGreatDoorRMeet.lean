import Derived.Test.YtbfmneblhlmiiaaGreatDoorMeet
import Derived.Test.YtbfmneblhlmiiaaGreatDoorLess
set_option linter.unusedVariables false
set_option linter.unusedSimpArgs false
namespace Go.Proofs.YtbfmneblhlmiiaaGreatDoor
open Go.RowKit

def big (s : ByteArray) : Prop := s.size ≤ 9223372036854775807

set_option maxHeartbeats 400000 in
theorem rhas_calls (a b : ByteArray) (w : World) (ha : a.size ≤ 9223372036854775807) (hb : b.size ≤ 9223372036854775807) :
    Calls Tryz.prog 15 #[.agg #[.string a, .string b]] w fun e w' => e = .returned (.bool (sle a b)) ∧ Below w.heap.size w w' := by
  unfold sle
  go_enter Tryz.func15, Tryz.ntmps15
  go_wp2_with (go_at_call 18; refine (less_calls _ _ _ (by assumption) (by assumption)).mono ?_; rintro e w1 ⟨rfl, hb1⟩)
  go_ret
  exact ⟨rfl, Below.step ((Below.refl _ _).alloc (Nat.le_refl _) _) hb1⟩

set_option maxHeartbeats 400000 in
theorem rmeet_calls (a b c d : ByteArray) (w : World) (ha : a.size ≤ 9223372036854775807) (hb : b.size ≤ 9223372036854775807) (hc : c.size ≤ 9223372036854775807) (hd : d.size ≤ 9223372036854775807) :
    Calls Tryz.prog 16 #[.agg #[.string a, .string b], .agg #[.string c, .string d]] w fun e w' => e = .returned (.bool (rmeet4 a b c d)) ∧ Below w.heap.size w w' := by
  unfold rmeet4
  obtain ⟨W, hW⟩ : ∃ W, W = (w.alloc (.cells #[.string a, .string b] 44)).alloc (.cells #[.string c, .string d] 44) := ⟨_, rfl⟩
  have hB : Below w.heap.size w W := by rw [hW]; exact ((Below.refl _ _).alloc (Nat.le_refl _) _).alloc (by simp) _
  have c0 : W.cell? ⟨w.heap.size, 0, none⟩ = some (.string a) := by rw [hW]; simp
  have c1 : W.cell? ⟨w.heap.size, 1, none⟩ = some (.string b) := by rw [hW]; simp
  have c2 : W.cell? ⟨w.heap.size + 1, 0, none⟩ = some (.string c) := by rw [hW]; simp
  have c3 : W.cell? ⟨w.heap.size + 1, 1, none⟩ = some (.string d) := by rw [hW]; simp
  have HW := Lib.hid hW
  clear hW
  cases h1 : sle a b <;> cases h2 : sle c d <;> cases h3 : sin a c d <;> cases h4 : sin c a b
  all_goals
    go_enter Tryz.func16, Tryz.ntmps16
    go_wp2_with fail
    rw [← HW.out]
    clear HW
    go_wp2_with (first | (go_at_call 15; refine (rhas_calls _ _ _ (by assumption) (by assumption)).mono ?_; rintro e w1 ⟨rfl, hb1⟩; replace c0 := Below.cell_some hb1 c0; replace c1 := Below.cell_some hb1 c1; replace c2 := Below.cell_some hb1 c2; replace c3 := Below.cell_some hb1 c3; replace hB := Below.step hB hb1; clear hb1) | (go_at_call 62; refine (rin_calls _ _ _ _ (by assumption) (by assumption) (by assumption)).mono ?_; rintro e w1 ⟨rfl, hb1⟩; replace c0 := Below.cell_some hb1 c0; replace c1 := Below.cell_some hb1 c1; replace c2 := Below.cell_some hb1 c2; replace c3 := Below.cell_some hb1 c3; replace hB := Below.step hB hb1; clear hb1))
    go_ret
    exact ⟨ret_bool (by simp), hB⟩

end Go.Proofs.YtbfmneblhlmiiaaGreatDoor
