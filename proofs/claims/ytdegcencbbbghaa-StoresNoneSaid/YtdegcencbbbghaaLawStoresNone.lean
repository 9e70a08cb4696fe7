/-
  The law concordatlaw13.StoresNone: a map that is not there, or that no call made, answers nothing. No condition.
-/
import Derived.Test.YtdegcencbbbghaaNo
set_option linter.unusedVariables false
set_option linter.unusedSimpArgs false
namespace Go.Proofs.Ytdegcencbbbghaa
open Go.RowKit Go.Shelf

set_option maxHeartbeats 1000000 in
set_option maxRecDepth 100000 in
theorem storesNone_walk (key : ByteArray) (A : Option Addr) (n c : Nat) (xs : List Change) (s : Span) (w : World) (_hrd : Rd Change.enc 3 w (.slice A n c) xs) (_hlen : xs.length * 24 ≤ 140737488351232) :
    Calls Try.prog 11 #[.string key, .slice A n c, .agg #[.string s.f, .string s.t]] w fun e w' => e = .returned (.bool true) ∧ Below w.heap.size w w' := by
  clear _hrd _hlen
  obtain ⟨f, t⟩ := s
  simp only
  go_enter Try.func11, Try.ntmps11
  go_wp2_with fail
  generalize hW0 : ((w.alloc (.cells #[.string f, .string t] 37)).alloc (.cells #[.slice none 0 0, .bool false] 55)).alloc (.cells #[.pointer none, .pointer (some ⟨w.heap.size + 1, 0, none⟩)] 25) = W0
  have hB0 : Below w.heap.size w W0 := by rw [← hW0]; exact (((Below.refl _ w).alloc (Nat.le_refl _) _).alloc (by simp) _).alloc (by simp; omega) _
  have c0 : W0.cell? ⟨w.heap.size, 0, none⟩ = some (.string f) := by
    rw [← hW0, World.cell?_alloc_past _ _ _ (by simp; omega), World.cell?_alloc_past _ _ _ (by simp), World.cell?_alloc_at _ _ _ _ rfl]; rfl
  have c1 : W0.cell? ⟨w.heap.size, 1, none⟩ = some (.string t) := by
    rw [← hW0, World.cell?_alloc_past _ _ _ (by simp; omega), World.cell?_alloc_past _ _ _ (by simp), World.cell?_alloc_at _ _ _ _ rfl]; rfl
  have q0 : W0.cell? ⟨w.heap.size + 1 + 1, 0, none⟩ = some (.pointer none) := by
    rw [← hW0, World.cell?_alloc_at _ _ _ _ (by simp)]; rfl
  have q1 : W0.cell? ⟨w.heap.size + 1 + 1, 1, none⟩ = some (.pointer (some ⟨w.heap.size + 1, 0, none⟩)) := by
    rw [← hW0, World.cell?_alloc_at _ _ _ _ (by simp)]; rfl
  have un : W0.cell? ⟨w.heap.size + 1, 1, none⟩ = some (.bool false) := by
    rw [← hW0, World.cell?_alloc_past _ _ _ (by simp), World.cell?_alloc_at _ _ _ _ (by simp)]; rfl
  clear hW0
  have hp : ∀ k : Nat, k < 2 → ∃ p, W0.cell? ⟨w.heap.size + 1 + 1, k, none⟩ = some (.pointer p) ∧ NoMap W0 p := fun k hk => by
    rcases Nat.lt_or_ge k 1 with h | h
    · obtain rfl : k = 0 := by omega
      exact ⟨none, q0, .inl rfl⟩
    · obtain rfl : k = 1 := by omega
      exact ⟨_, q1, .inr ⟨_, rfl, un⟩⟩
  clear q0 q1 un
  go_loopw [8] (fun iv wr => ∃ k : Nat, k ≤ 2 ∧ iv = .int .i64 k ∧ Below W0.heap.size W0 wr) (fun iv _ => 2 - (intOf iv).toNat)
  case atStart => exact ⟨0, Nat.zero_le _, rfl, Below.refl _ _⟩
  case round =>
    obtain ⟨k, hk, rfl, hb⟩ := hrel
    by_cases hlt : k < 2
    · obtain ⟨p, hq, hno0⟩ := hp k hlt
      have hq1 := Below.cell_some hb hq
      have hno := hno0.below hb
      have hg := get_no hno key
      have hq2 := fun q : Later wr => Later.cell q hq1
      have d0 := fun q : Later wr => Later.cell q (Below.cell_some hb c0)
      have d1 := fun q : Later wr => Later.cell q (Below.cell_some hb c1)
      clear hq hno0 hp c0 c1
      go_wp2_with (go_at_call 17; refine hg.mono ?_; rintro e w1 ⟨rfl, rfl⟩; clear hg hq1)
      refine wp_region_later (by kernel_rfl) (by kernel_rfl) ?_
      repeat (go_big_quiet_step ((first
        | (go_at_call 26; exact Calls.later_same (put_no (hno.below (Later.ok _)) _ _))
        | (go_at_call 25; exact Calls.later_same (del_no (hno.below (Later.ok _)) _))
        | (go_at_call 24; exact Calls.later_same (change_no (hno.below (Later.ok _)) _ _ _))
        | (go_at_call 22; exact Calls.later (scan_no (hno.below (Later.ok _)) _ _ _))
        | (go_at_call 18; exact Calls.later_same (rows_no (hno.below (Later.ok _))))
        | (go_at_call 27; exact Calls.later_same (twin_no (hno.below (Later.ok _)))))))
      refine wpQuiet_nil ?_
      rintro W2 ⟨⟨_, hb2⟩, rfl⟩
      clear hq2 d0 d1
      go_wp2
      go_roundw
      case rel => exact ⟨k + 1, by omega, by go_num, Below.step hb hb2⟩
      case measure => simp [intOf]; omega
    · go_wp2
      go_ret
      exact ⟨rfl, hB0.trans (hb.mono hB0.size)⟩

end Go.Proofs.Ytdegcencbbbghaa
