/-
  The law concordatlaw11.LocksNone: a table that is not there, or that no call made, answers nothing. No condition.
-/
import Derived.Test.YtomhkflcimbbiaaLNo
import Derived.Test.YtomhkflcimbbiaaKinds
set_option linter.unusedVariables false
set_option linter.unusedSimpArgs false
set_option linter.unusedSectionVars false
namespace Go.Proofs.Ytomhkflcimbbiaa
open Go.RowKit

set_option maxHeartbeats 1000000 in
set_option maxRecDepth 100000 in
theorem locksNone_walk (who : Int) (s : Span) (al : Bool) (w : World) :
    Calls Try.prog 3 #[.int .u32 who, .agg #[.string s.f, .string s.t], .bool al] w fun e w' => e = .returned (.bool true) ∧ Below w.heap.size w w' := by
  obtain ⟨f, t⟩ := s
  simp only
  go_enter Try.func3, Try.ntmps3
  go_wp2_with fail
  generalize hW0 : ((w.alloc (.cells #[.string f, .string t] 24)).alloc (.cells #[.map none] 28)).alloc (.cells #[.pointer none, .pointer (some ⟨w.heap.size + 1, 0, none⟩)] 25) = W0
  have hB0 : Below w.heap.size w W0 := by rw [← hW0]; exact (((Below.refl _ w).alloc (Nat.le_refl _) _).alloc (by simp) _).alloc (by simp; omega) _
  have c0 : W0.cell? ⟨w.heap.size, 0, none⟩ = some (.string f) := by
    rw [← hW0, World.cell?_alloc_past _ _ _ (by simp; omega), World.cell?_alloc_past _ _ _ (by simp), World.cell?_alloc_at _ _ _ _ rfl]; rfl
  have c1 : W0.cell? ⟨w.heap.size, 1, none⟩ = some (.string t) := by
    rw [← hW0, World.cell?_alloc_past _ _ _ (by simp; omega), World.cell?_alloc_past _ _ _ (by simp), World.cell?_alloc_at _ _ _ _ rfl]; rfl
  have q0 : W0.cell? ⟨w.heap.size + 1 + 1, 0, none⟩ = some (.pointer none) := by
    rw [← hW0, World.cell?_alloc_at _ _ _ _ (by simp)]; rfl
  have q1 : W0.cell? ⟨w.heap.size + 1 + 1, 1, none⟩ = some (.pointer (some ⟨w.heap.size + 1, 0, none⟩)) := by
    rw [← hW0, World.cell?_alloc_at _ _ _ _ (by simp)]; rfl
  have un : W0.cell? ⟨w.heap.size + 1, 0, none⟩ = some (.map none) := by
    rw [← hW0, World.cell?_alloc_past _ _ _ (by simp), World.cell?_alloc_at _ _ _ _ (by simp)]; rfl
  clear hW0
  have hp : ∀ k : Nat, k < 2 → ∃ p, W0.cell? ⟨w.heap.size + 1 + 1, k, none⟩ = some (.pointer p) ∧ NoTab W0 p := fun k hk => by
    rcases Nat.lt_or_ge k 1 with h | h
    · obtain rfl : k = 0 := by omega
      exact ⟨none, q0, .inl rfl⟩
    · obtain rfl : k = 1 := by omega
      exact ⟨_, q1, .inr ⟨_, rfl, un⟩⟩
  clear q0 q1 un
  go_loopw [8] (fun iv wr => ∃ k : Nat, k ≤ 2 ∧ iv = .int .i64 k ∧ Below W0.heap.size W0 wr) (fun iv _ => 2 - (intOf iv).toNat)
  case atStart => exact ⟨0, Nat.zero_le _, rfl, Below.refl _ _⟩
  case round =>
    obtain ⟨k, hk, rfl, hb⟩ := hrel
    by_cases hlt : k < 2
    · obtain ⟨p, hq, hno0⟩ := hp k hlt
      have hq1 := Below.cell_some hb hq
      have hno := hno0.below hb
      have hq2 := fun q : Later wr => Later.cell q hq1
      have d0 := fun q : Later wr => Later.cell q (Below.cell_some hb c0)
      have d1 := fun q : Later wr => Later.cell q (Below.cell_some hb c1)
      clear hq hno0 hp c0 c1
      go_wp2
      refine wp_region_later (by kernel_rfl) (by kernel_rfl) ?_
      repeat (go_big_quiet_step ((go_at_call 11; exact Calls.later (ask_no (hno.below (Later.ok _)) _ _ _ _))))
      refine wpQuiet_nil ?_
      rintro W2 ⟨p2, rfl⟩
      replace hno := hno.below p2.ok
      replace hb := Below.step hb p2.ok
      have hq3 := Later.cell p2 hq1
      have e0 := d0 p2
      have e1 := d1 p2
      clear hq2 d0 d1 hq1
      generalize p2.val = W3 at *
      have hq2 := fun q : Later W3 => Later.cell q hq3
      have d0 := fun q : Later W3 => Later.cell q e0
      have d1 := fun q : Later W3 => Later.cell q e1
      clear hq3 e0 e1
      go_wp2
      refine wp_region_later (by kernel_rfl) (by kernel_rfl) ?_
      repeat (go_big_quiet_step ((first
        | (go_at_call 12; exact Calls.later (way_no (hno.below (Later.ok _)) _ _ _ _))
        | (go_at_call 13; exact Calls.later_same (free_no (hno.below (Later.ok _)) _))
        | (go_at_call 14; exact Calls.later_same (has_no (hno.below (Later.ok _)) _)))))
      refine wpQuiet_nil ?_
      rintro W2 ⟨⟨_, hb2⟩, rfl⟩
      clear hq2 d0 d1
      go_wp2
      go_roundw
      case rel => exact ⟨k + 1, by omega, by go_num, Below.step hb hb2⟩
      case measure => simp [intOf]; omega
    · go_wp2
      go_ret
      exact ⟨rfl, hB0.trans (hb.mono hB0.size)⟩

end Go.Proofs.Ytomhkflcimbbiaa
