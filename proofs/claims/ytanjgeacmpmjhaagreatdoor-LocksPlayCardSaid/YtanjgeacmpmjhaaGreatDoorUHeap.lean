import Derived.Test.YtanjgeacmpmjhaaGreatDoorMgLocksPlay6
import Derived.Sort.LotB
import Derived.Sort.WalkB2
set_option linter.unusedVariables false
set_option linter.unusedSimpArgs false
set_option linter.unusedSectionVars false
namespace Go.Proofs.YtanjgeacmpmjhaaGreatDoor
open Go.RowKit
open Go.Sort (Holds putRow swp PermIn SortedIn ltInt holds_putRow holds_ahead putRow_self permIn_refl permIn_trans swp_permIn size_swp siftDown heapBuild heapPop heapSort sd_end sd_right_stop sd_right_go sd_left_stop sd_left_go)

theorem size_siftDown (hi first : Nat) : ∀ (n root : Nat) (d : Array Int), hi - root ≤ n → (siftDown ltInt hi first root d).size = d.size
  | 0, root, d, h => by rw [sd_end ltInt d (by omega)]
  | n + 1, root, d, h => by
    rw [siftDown]
    split
    · rfl
    · split
      · split
        · rfl
        · split
          · rw [size_siftDown hi first n _ _ (by omega), size_swp]
          · rfl
      · split
        · rfl
        · rw [size_siftDown hi first n _ _ (by omega), size_swp]

section
variable {w W : World} {g off N : Nat} {x : Array Int} (cap : Nat)
set_option maxHeartbeats 4000000 in
set_option maxRecDepth 100000 in
theorem usift_calls (h : RowU w g off W x) (hN : x.size = N) (lo hi first : Nat) (hlo : lo ≤ hi) (hb : first + hi ≤ N) (hsz : N < 4611686018427387904) :
    Calls Tryz.prog 254 #[.slice (some ⟨g, off, none⟩) N cap, .int .i64 lo, .int .i64 hi, .int .i64 first] W fun e W' =>
      e = .returned (.tuple #[]) ∧ RowU w g off W' (siftDown ltInt hi first lo x) := by
  obtain ⟨R, hR⟩ : ∃ R, siftDown ltInt hi first lo x = R := ⟨_, rfl⟩
  rw [hR]
  go_enter Tryz.func254, Tryz.ntmps254
  go_wp2
  go_loopw [8] (fun vr wr => ∃ (root : Nat) (y : Array Int), vr = .int .i64 root ∧ root ≤ hi ∧ y.size = N ∧ RowU w g off wr y ∧ siftDown ltInt hi first root y = R) (fun vr _ => hi - (intOf vr).toNat)
  case atStart => exact ⟨lo, x, rfl, hlo, hN, h, hR⟩
  case round =>
    clear h hR
    obtain ⟨root, y, rfl, hri, hyN, hRy, hL⟩ := hrel
    obtain ⟨G, hG⟩ := getG y
    have hcw := hRy.cells hyN hG
    have hfw := hRy.frz hyN
    have HR := Lib.hid hRy
    have HG := Lib.hid hG
    have HL := Lib.hid hL
    clear hRy hG hL
    by_cases h0 : hi ≤ 2 * root + 1
    · have h0z : (hi : Int) ≤ 2 * (root : Int) + 1 := by omega
      go_wp2
      go_end0
      refine ⟨rfl, ?_⟩
      rw [← HL.out, sd_end ltInt y h0]
      exact HR.out
    · have h0z : ¬ ((hi : Int) ≤ 2 * (root : Int) + 1) := by omega
      by_cases h1 : 2 * root + 2 < hi
      · have h1z : 2 * (root : Int) + 1 + 1 < (hi : Int) := by omega
        cases hl : ltInt (G (first + 2 * root + 1)) (G (first + 2 * root + 2))
        · -- the left one
          have HL1 := Lib.hid (show 2 * root + 2 < hi → ltInt y[first + (2 * root + 1)]! y[first + (2 * root + 2)]! = false from fun _ => by rw [← HG.out, ← HG.out, ← Nat.add_assoc, ← Nat.add_assoc]; exact hl)
          have HL2 := Lib.hid (show ∀ q, ltInt (G (first + root)) (G (first + 2 * root + 1)) = q → ltInt y[first + root]! y[first + (2 * root + 1)]! = q from fun _ h => by rw [← HG.out, ← HG.out, ← Nat.add_assoc]; exact h)
          go_wp2
          go_big_quiet (first | (go_at_call 242; refine Calls.quiet_of_same (uless_calls _ _ _)))
          go_wp2
          have hQ := HR.out.drewN nq
          generalize wr.drewN nq = wq at hQ ⊢
          clear hcw hfw
          (try clear nq)
          have hcw := hQ.cells hyN HG.out
          have hfw := hQ.frz hyN
          have HQ := Lib.hid hQ
          clear hQ
          cases hl2 : ltInt (G (first + root)) (G (first + 2 * root + 1))
          · go_big_quiet (first | (go_at_call 242; refine Calls.quiet_of_same (uless_calls _ _ _)))
            go_wp2
            (try simp only [Exit.inBlock, Exit.then]); refine bodyPost_ret (results_none rfl _ _ _) rfl ?_
            refine ⟨rfl, ?_⟩
            rw [← HL.out, sd_left_stop ltInt y (by omega) (HL1.out) (HL2.out _ hl2)]
            exact HQ.out.drewN nq
          · go_big_quiet (first | (go_at_call 242; refine Calls.quiet_of_same (uless_calls _ _ _)))
            go_wp2
            go_region
            all_goals go_wp2
            go_roundw
            case rel =>
              refine ⟨2 * root + 1, swp y (first + root) (first + (2 * root + 1)), by go_num, by omega, by rw [size_swp]; exact hyN, HQ.out.swap HG.out (by omega) (by omega) (nq + 1), ?_⟩
              rw [← HL.out, sd_left_go ltInt y (by omega) (HL1.out) (HL2.out _ hl2)]
            case measure => simp [intOf]; omega
        · -- the right one
          have HL1 := Lib.hid (show ltInt y[first + (2 * root + 1)]! y[first + (2 * root + 2)]! = true by rw [← HG.out, ← HG.out, ← Nat.add_assoc, ← Nat.add_assoc]; exact hl)
          have HL2 := Lib.hid (show ∀ q, ltInt (G (first + root)) (G (first + 2 * root + 2)) = q → ltInt y[first + root]! y[first + (2 * root + 2)]! = q from fun _ h => by rw [← HG.out, ← HG.out, ← Nat.add_assoc]; exact h)
          go_wp2
          go_big_quiet (first | (go_at_call 242; refine Calls.quiet_of_same (uless_calls _ _ _)))
          go_wp2
          have hQ := HR.out.drewN nq
          generalize wr.drewN nq = wq at hQ ⊢
          clear hcw hfw
          (try clear nq)
          have hcw := hQ.cells hyN HG.out
          have hfw := hQ.frz hyN
          have HQ := Lib.hid hQ
          clear hQ
          cases hl2 : ltInt (G (first + root)) (G (first + 2 * root + 2))
          · go_big_quiet (first | (go_at_call 242; refine Calls.quiet_of_same (uless_calls _ _ _)))
            go_wp2
            (try simp only [Exit.inBlock, Exit.then]); refine bodyPost_ret (results_none rfl _ _ _) rfl ?_
            refine ⟨rfl, ?_⟩
            rw [← HL.out, sd_right_stop ltInt y h1 (HL1.out) (HL2.out _ hl2)]
            exact HQ.out.drewN nq
          · go_big_quiet (first | (go_at_call 242; refine Calls.quiet_of_same (uless_calls _ _ _)))
            go_wp2
            go_region
            all_goals go_wp2
            go_roundw
            case rel =>
              refine ⟨2 * root + 2, swp y (first + root) (first + (2 * root + 2)), by go_num, by omega, by rw [size_swp]; exact hyN, HQ.out.swap HG.out (by omega) (by omega) (nq + 1), ?_⟩
              rw [← HL.out, sd_right_go ltInt y h1 (HL1.out) (HL2.out _ hl2)]
            case measure => simp [intOf]; omega
      · -- there is no right one
        have h1z : decide (2 * (root : Int) + 1 + 1 < (hi : Int)) = false := decide_eq_false (by omega)
        have h1y : decide (2 * (root : Int) + 2 < (hi : Int)) = false := decide_eq_false (by omega)
        have HL1 := Lib.hid (show 2 * root + 2 < hi → ltInt y[first + (2 * root + 1)]! y[first + (2 * root + 2)]! = false from fun h => absurd h h1)
        have HL2 := Lib.hid (show ∀ q, ltInt (G (first + root)) (G (first + 2 * root + 1)) = q → ltInt y[first + root]! y[first + (2 * root + 1)]! = q from fun _ h => by rw [← HG.out, ← HG.out, ← Nat.add_assoc]; exact h)
        go_wp2
        go_big_quiet (first | (go_at_call 242; refine Calls.quiet_of_same (uless_calls _ _ _)))
        go_wp2
        have hQ := HR.out.drewN nq
        generalize wr.drewN nq = wq at hQ ⊢
        clear hcw hfw
        (try clear nq)
        have hcw := hQ.cells hyN HG.out
        have hfw := hQ.frz hyN
        have HQ := Lib.hid hQ
        clear hQ
        cases hl2 : ltInt (G (first + root)) (G (first + 2 * root + 1))
        · go_big_quiet (first | (go_at_call 242; refine Calls.quiet_of_same (uless_calls _ _ _)))
          go_wp2
          (try simp only [Exit.inBlock, Exit.then]); refine bodyPost_ret (results_none rfl _ _ _) rfl ?_
          refine ⟨rfl, ?_⟩
          rw [← HL.out, sd_left_stop ltInt y (by omega) (HL1.out) (HL2.out _ hl2)]
          exact HQ.out.drewN nq
        · go_big_quiet (first | (go_at_call 242; refine Calls.quiet_of_same (uless_calls _ _ _)))
          go_wp2
          go_region
          all_goals go_wp2
          go_roundw
          case rel =>
            refine ⟨2 * root + 1, swp y (first + root) (first + (2 * root + 1)), by go_num, by omega, by rw [size_swp]; exact hyN, HQ.out.swap HG.out (by omega) (by omega) (nq + 1), ?_⟩
            rw [← HL.out, sd_left_go ltInt y (by omega) (HL1.out) (HL2.out _ hl2)]
          case measure => simp [intOf]; omega

set_option maxHeartbeats 2000000 in
set_option maxRecDepth 100000 in
theorem uheap_calls (h : RowU w g off W x) (hN : x.size = N) (a b : Nat) (hab : a + 2 ≤ b) (hb : b ≤ N) (hsz : N < 4611686018427387904) :
    Calls Tryz.prog 237 #[.slice (some ⟨g, off, none⟩) N cap, .int .i64 a, .int .i64 b] W fun e W' => e = .returned (.tuple #[]) ∧ RowU w g off W' (heapSort ltInt x a b) := by
  obtain ⟨D, hD⟩ : ∃ D, heapBuild ltInt (b - a) a ((b - a - 1) / 2 + 1) x = D := ⟨_, rfl⟩
  obtain ⟨R, hR⟩ : ∃ R, heapPop ltInt a (b - a) D = R := ⟨_, rfl⟩
  rw [show heapSort ltInt x a b = R by rw [← hR, ← hD]; rfl]
  obtain ⟨L, hL⟩ : ∃ L, b - a = L := ⟨_, rfl⟩
  rw [hL] at hD hR
  have e0 : ((b : Int) - (a : Int)) = (L : Int) := by omega
  have HR0 := Lib.hid hR
  clear hR
  go_enter Tryz.func237, Tryz.ntmps237
  go_wp2
  go_loopw [9] (fun vi wr => ∃ (k : Nat) (iz : Int) (y : Array Int), vi = .int .i64 iz ∧ iz = (k : Int) - 1 ∧ k ≤ L ∧ y.size = N ∧ RowU w g off wr y ∧ heapBuild ltInt L a k y = D) (fun vi _ => (intOf vi + 1).toNat)
  case atStart => exact ⟨(L - 1) / 2 + 1, ((L : Int) - 1) / 2, x, by go_num, by omega, by omega, hN, h, hD⟩
  case round =>
    clear h hD
    obtain ⟨k, iz, y, rfl, hk, hkL, hyN, hRy, hy⟩ := hrel
    by_cases hk0 : 0 < k
    · obtain ⟨j, rfl⟩ : ∃ j, k = j + 1 := ⟨k - 1, by omega⟩
      obtain rfl : iz = (j : Int) := by omega
      have hc := usift_calls cap hRy hyN j L a (by omega) (by omega) hsz
      have HY := Lib.hid (show heapBuild ltInt L a j (siftDown ltInt L a j y) = D from hy)
      have hys : (siftDown ltInt L a j y).size = N := by rw [size_siftDown L a _ _ _ (Nat.le_refl _)]; exact hyN
      have HYS := Lib.hid hys
      clear hRy hy hys hk
      generalize siftDown ltInt L a j y = y1 at *
      go_wp2_with (go_at_call 254; refine hc.mono ?_; rintro e w1 ⟨rfl, hR1⟩)
      go_roundw
      case rel => exact ⟨j, (j : Int) - 1, y1, by go_num, rfl, by omega, HYS.out, hR1, HY.out⟩
      case measure => simp [intOf] <;> omega
    · obtain rfl : k = 0 := by omega
      obtain rfl : iz = -1 := by omega
      obtain rfl : y = D := hy
      clear hk
      go_wp2
      go_loopw [10] (fun vi wr => ∃ (k : Nat) (iz : Int) (z : Array Int), vi = .int .i64 iz ∧ iz = (k : Int) - 1 ∧ k ≤ L ∧ z.size = N ∧ RowU w g off wr z ∧ heapPop ltInt a k z = R) (fun vi _ => (intOf vi + 1).toNat)
      case atStart => exact ⟨L, (L : Int) - 1, y, by go_num, rfl, Nat.le_refl _, hyN, hRy, HR0.out⟩
      case round =>
        clear hRy hyN
        obtain ⟨k, iz, z, rfl, hk, hkL, hzN, hRz, hz⟩ := hrel
        by_cases hk0 : 0 < k
        · obtain ⟨j, rfl⟩ : ∃ j, k = j + 1 := ⟨k - 1, by omega⟩
          obtain rfl : iz = (j : Int) := by omega
          obtain ⟨G, hG⟩ := getG z
          have hcw := hRz.cells hzN hG
          have hfw := hRz.frz hzN
          have HZ := Lib.hid (show heapPop ltInt a j (siftDown ltInt j a 0 (swp z a (a + j))) = R from hz)
          have HRz := Lib.hid hRz
          have HG := Lib.hid hG
          clear hRz hz hG hk
          have hor : j = 0 ∨ 0 < j := by omega
          rcases hor with rfl | hj0
          all_goals
            go_wp2
            go_region
            all_goals go_wp2_with fail
            first
              | (have hsw := HRz.out.swap HG.out (j := a) (k := a + j) (by omega) (by omega) 1
                 have hc := usift_calls cap hsw (by rw [size_swp]; exact hzN) 0 j a (by omega) (by omega) hsz)
              | (have hsw := HRz.out.swap HG.out (j := a) (k := a + 0) (by omega) (by omega) 1
                 have hc := usift_calls cap hsw (by rw [size_swp]; exact hzN) 0 0 a (by omega) (by omega) hsz)
            go_at_call 254
            refine hc.mono ?_
            rintro e w1 ⟨rfl, hR1⟩
            clear hc hsw hcw hfw
            go_wp2
            go_roundw
            case rel => exact ⟨_, _, _, by go_num, rfl, by omega, (by rw [size_siftDown _ a _ _ _ (Nat.le_refl _), size_swp]; exact hzN), hR1, HZ.out⟩
            case measure => simp [intOf] <;> omega
        · obtain rfl : k = 0 := by omega
          obtain rfl : iz = -1 := by omega
          clear hk
          go_wp2
          go_end0
          have e : z = R := hz
          exact ⟨rfl, by rw [← e]; exact hRz⟩
end
end Go.Proofs.YtanjgeacmpmjhaaGreatDoor
