import Derived.Test.YtimadkbdkdeepaaDoorMeetC
import Derived.Test.YtimadkbdkdeepaaDoorIfSpan
set_option linter.unusedVariables false
set_option linter.unusedSimpArgs false
namespace Go.Proofs.YtimadkbdkdeepaaDoor
open Go.RowKit Go.Shelf
/-! the closure of meets -/
set_option maxHeartbeats 400000 in
theorem meets1_calls (a b c d : ByteArray) (B : Nat) (w : World) (c0 : w.cell? ⟨B, 0, none⟩ = some (.string a)) (c1 : w.cell? ⟨B, 1, none⟩ = some (.string b)) :
    Calls Tryd.prog 48 #[.agg #[.string c, .string d], .pointer (some ⟨B, 0, none⟩)] w fun e w' => e = .returned (.bool (meet4 a b c d)) ∧ Below w.heap.size w w' := by
  have hlt : B < w.heap.size := World.block_lt_of_cell? w _ c0
  have hne : ¬ w.heap.size = B := by omega
  go_enter Tryd.func48, Tryd.ntmps48
  go_wp2_with (go_at_call 12; refine (meet_calls _ _ _ _ _).mono ?_; rintro e w1 ⟨rfl, hb1⟩)
  go_ret
  exact ⟨rfl, Below.step ((Below.refl _ _).alloc (Nat.le_refl _) _) hb1⟩

set_option maxHeartbeats 400000 in
theorem meets_calls (a b : ByteArray) (v : Value) (xs : List Span) (w : World) (hv : Rd Span.enc 2 w v xs) :
    Calls Tryd.prog 25 #[.agg #[.string a, .string b], v] w fun e w' => e = .returned (.bool (xs.any fun x => meet4 a b x.f x.t)) ∧ Below w.heap.size w w' := by
  obtain ⟨W, hW⟩ : ∃ W, W = w.alloc (.cells #[.string a, .string b] 36) := ⟨_, rfl⟩
  have hB : Below w.heap.size w W := by rw [hW]; exact (Below.refl _ _).alloc (Nat.le_refl _) _
  have c0 : W.cell? ⟨w.heap.size, 0, none⟩ = some (.string a) := by rw [hW]; simp
  have c1 : W.cell? ⟨w.heap.size, 1, none⟩ = some (.string b) := by rw [hW]; simp
  have h := containsFuncSpan_calls (fun x => meet4 a b x.f x.t) 48 #[.pointer (some ⟨w.heap.size, 0, none⟩)] (enters_of Tryd.func48 (by kernel_rfl) rfl) v xs W (hv.below hB)
    (fun W' x _ hb => meets1_calls a b x.f x.t w.heap.size W' (Below.cell_some hb c0) (Below.cell_some hb c1))
  clear c0 c1
  rw [hW] at h
  obtain ⟨A, c, rfl, hlc, hc⟩ := hv.shape
  rw [hW] at hB
  go_enter Tryd.func25, Tryd.ntmps25
  go_wp2_with (go_at_call 47; refine h.mono ?_; rintro e w1 ⟨rfl, hb1⟩)
  go_ret
  exact ⟨rfl, Below.step hB hb1⟩

set_option maxHeartbeats 400000 in
theorem any_calls (a b : ByteArray) (v : Value) (xs : List Span) (w : World) (hv : Rd Span.enc 2 w v xs) :
    Calls Tryd.prog 9 #[.agg #[.string a, .string b], v] w fun e w' => e = .returned (.bool (xs.any fun x => meet4 a b x.f x.t)) ∧ Below w.heap.size w w' := by
  have hB : Below w.heap.size w (w.alloc (.cells #[.string a, .string b] 36)) := (Below.refl _ _).alloc (Nat.le_refl _) _
  have h := meets_calls a b v xs _ (hv.below hB)
  obtain ⟨A, c, rfl, hlc, hc⟩ := hv.shape
  go_enter Tryd.func9, Tryd.ntmps9
  go_wp2_with (go_at_call 25; refine h.mono ?_; rintro e w1 ⟨rfl, hb1⟩)
  go_ret
  exact ⟨rfl, Below.step hB hb1⟩

end Go.Proofs.YtimadkbdkdeepaaDoor
