import Derived.Test.YtomhkflcimbbiaaProg
import Derived.Test.YtomhkflcimbbiaaBase
import Derived.Sort.WalkA
import Derived.Deep.QuietTactic
set_option linter.unusedVariables false
set_option linter.unusedSimpArgs false
set_option linter.unusedSectionVars false
namespace Go.Proofs.Ytomhkflcimbbiaa
open Go.RowKit Go.Sort

set_option maxHeartbeats 400000 in
theorem uless_calls (x y : Int) (w : World) : Calls Try.prog 53 #[.int .u32 x, .int .u32 y] w fun e w' => e = .returned (.bool (ltInt x y)) ∧ w' = w := by
  have hnan : ∀ z : Int, Calls Try.prog 73 #[.int .u32 z] w fun e w' => e = .returned (.bool false) ∧ w' = w := fun z => by
    go_enter Try.func73, Try.ntmps73
    go_wp2
    go_ret
    exact ⟨by simp, rfl⟩
  go_enter Try.func53, Try.ntmps53
  go_wp2_with (go_at_call 73; refine (hnan _).mono ?_; rintro e w' ⟨rfl, rfl⟩)
  go_ret
  exact ⟨rfl, rfl⟩

abbrev eU : Int → Value := Value.int .u32

set_option maxHeartbeats 1000000 in
set_option maxRecDepth 100000 in
/-- slices.insertionSortOrdered at uint32. -/
theorem uins_calls (blk off cap a b : Nat) (d : Array Int) (w : World) (hH : Holds eU w blk off d) (hab : a ≤ b) (hb : b ≤ d.size) (hsz : d.size < 4611686018427387904) :
    Calls Try.prog 47 #[.slice (some ⟨blk, off, none⟩) d.size cap, .int .i64 a, .int .i64 b] w fun e w' =>
      e = .returned (.tuple #[]) ∧ ∃ n, w' = putRow eU (Sort.ahead w n) blk off (insertionSort ltInt d a b) := by
  -- the worlds that come: the row as some array of its size
  have start := Lib.hid (show w = putRow eU (Sort.ahead w 0) blk off d from (putRow_self _ _ _ _ _ hH).symm)
  go_enter Try.func47, Try.ntmps47
  go_wp2
  go_loopw [6] (fun vi wr => ∃ (i n : Nat) (x : Array Int), vi = .int .i64 i ∧ a + 1 ≤ i ∧ i ≤ b + 1 ∧ x.size = d.size ∧ wr = putRow eU (Sort.ahead w n) blk off x ∧ insOuter ltInt a b i x = insertionSort ltInt d a b) (fun vi _ => b + 1 - (intOf vi).toNat)
  case atStart => exact ⟨a + 1, 0, d, by go_num, Nat.le_refl _, by omega, rfl, start.out, rfl⟩
  case round =>
    clear start
    obtain ⟨i, n, x, rfl, hai, hib, hsx, hwr, hO⟩ := hrel
    have HO := Lib.hid hO
    clear hO
    by_cases hlt : i < b
    · go_wp2
      go_loopw [7] (fun vj wr => ∃ (j m : Nat) (y : Array Int), vj = .int .i64 j ∧ a ≤ j ∧ j ≤ i ∧ y.size = d.size ∧ wr = putRow eU (Sort.ahead w m) blk off y ∧ insInner ltInt a j y = insInner ltInt a i x) (fun vj _ => (intOf vj).toNat)
      case atStart => exact ⟨i, n, x, rfl, by omega, Nat.le_refl _, hsx, rfl, rfl⟩
      case round =>
        obtain ⟨j, m, y, rfl, haj, hji, hsy, hwq, hI⟩ := hrel
        -- the end of a round of the outer loop, from here
        have out : insInner ltInt a j y = y → ∀ q, ∃ (i' n' : Nat) (x' : Array Int), Value.int .i64 ((i : Int) + 1) = .int .i64 (i' : Nat) ∧ a + 1 ≤ i' ∧ i' ≤ b + 1 ∧ x'.size = d.size ∧ wr.drewN q = putRow eU (Sort.ahead w n') blk off x' ∧ insOuter ltInt a b i' x' = insertionSort ltInt d a b := fun hs q =>
          ⟨i + 1, m + q, y, by go_num, by omega, by omega, hsy, by rw [hwq]; exact putRow_drewN _ _ _ _ _ _ _, by rw [← HO.out, insOuter_go _ _ _ _ _ hlt, ← hI, hs]⟩
        have OUT := Lib.hid out
        have HI := Lib.hid hI
        have HW := Lib.hid hwq
        obtain ⟨G, hG⟩ : ∃ G : Nat → Int, ∀ t, G t = y[t]! := ⟨fun t => y[t]!, fun _ => rfl⟩
        have cells : ∀ t, t < d.size → wr.cell? ⟨blk, off + t, none⟩ = some (.int .u32 (G t)) := fun t ht => by
          rw [hwq, hG]
          exact cell?_putRow _ _ _ _ d y (holds_ahead _ _ _ _ _ _ hH) hsy t (by omega)
        have frz : ∀ t, t < d.size → wr.frozen? ⟨blk, off + t, none⟩ = false := fun t ht => by
          rw [hwq, frozen?_putRow]
          exact ((holds_ahead _ _ m _ _ _ hH) t ht).2
        have HG := Lib.hid hG
        clear out hI hwq hG hH hwr
        by_cases hja : a < j
        · go_wp2
          go_quiet (first | (go_at_call 53; refine Calls.quiet_of_same (uless_calls _ _ _)))
          go_wp2
          · have hl : ltInt (G j) (G (j - 1)) = true := by assumption
            go_region
            all_goals go_wp2
            go_roundw
            case rel =>
              refine ⟨j - 1, m + (nq + 1), swp y j (j - 1), by congr 1; omega, by omega, by omega, by rw [size_swp]; exact hsy, ?_, ?_⟩
              · rw [HW.out, HG.out, HG.out]
                exact swap_worldA _ w m (nq + 1) blk off y j (j - 1) (by omega) (by omega)
              · rw [← HI.out, insInner_go ltInt a j y hja (by rw [← HG.out, ← HG.out]; exact hl)]
            case measure => simp [intOf]; omega
          · have hl : ltInt (G j) (G (j - 1)) = false := by assumption
            go_roundw
            case rel => exact OUT.out (insInner_stop _ _ _ _ (.inr (by rw [← HG.out, ← HG.out]; exact hl))) nq
            case measure => simp [intOf]; omega
        · go_wp2
          go_quiet (first | (go_at_call 53; refine Calls.quiet_of_same (uless_calls _ _ _)))
          go_wp2
          go_roundw
          case rel => exact OUT.out (insInner_stop _ _ _ _ (.inl (by omega))) nq
          case measure => simp [intOf]; omega
    · go_wp2
      go_end0
      exact ⟨rfl, n, by rw [← HO.out, insOuter_stop _ _ _ _ _ hlt]⟩

end Go.Proofs.Ytomhkflcimbbiaa
