import Derived.Test.YtanjgeacmpmjhaaGreatDoorMgLocksPlay6
import Derived.Sort.LotA
set_option linter.unusedVariables false
set_option linter.unusedSimpArgs false
set_option linter.unusedSectionVars false
namespace Go.Proofs.YtanjgeacmpmjhaaGreatDoor
open Go.RowKit
open Go.Sort (Holds putRow swp PermIn SortedIn ltInt holds_putRow holds_ahead putRow_self permIn_refl permIn_trans swp_permIn size_swp scanSorted shiftDown shiftUp partialIns partialIns_succ fixDown fixUp)

theorem scanSorted_go {d : Array Int} {b i : Nat} (h : i < b) (hl : ltInt d[i]! d[i - 1]! = false) : scanSorted ltInt d b i = scanSorted ltInt d b (i + 1) := by
  rw [scanSorted, if_pos (by simp [h, hl])]
theorem scanSorted_stop {d : Array Int} {b i : Nat} (h : b ≤ i ∨ ltInt d[i]! d[i - 1]! = true) : scanSorted ltInt d b i = i := by
  rw [scanSorted, if_neg]
  rcases h with h | h
  · simp; omega
  · simp [h]
theorem shiftDown_go {d : Array Int} {j : Nat} (h0 : 0 < j) (hl : ltInt d[j]! d[j - 1]! = true) : shiftDown ltInt j d = shiftDown ltInt (j - 1) (swp d j (j - 1)) := by
  obtain ⟨k, rfl⟩ : ∃ k, j = k + 1 := ⟨j - 1, by omega⟩
  rw [Nat.add_sub_cancel] at *
  rw [shiftDown, hl]; rfl
theorem shiftDown_stop {d : Array Int} {j : Nat} (h : j = 0 ∨ ltInt d[j]! d[j - 1]! = false) : shiftDown ltInt j d = d := by
  cases j with
  | zero => rw [shiftDown]
  | succ k =>
    rcases h with h | h
    · omega
    · rw [Nat.add_sub_cancel] at h
      rw [shiftDown, h]; rfl
theorem shiftUp_go {d : Array Int} {b j : Nat} (h : j < b) (hl : ltInt d[j]! d[j - 1]! = true) : shiftUp ltInt b j d = shiftUp ltInt b (j + 1) (swp d j (j - 1)) := by
  rw [shiftUp, if_pos h, hl]; rfl
theorem shiftUp_stop {d : Array Int} {b j : Nat} (h : b ≤ j ∨ ltInt d[j]! d[j - 1]! = false) : shiftUp ltInt b j d = d := by
  rw [shiftUp]
  rcases h with h | h
  · rw [if_neg (by omega)]
  · split
    · rw [h]; rfl
    · rfl
theorem size_shiftDown : ∀ (j : Nat) (d : Array Int), (shiftDown ltInt j d).size = d.size
  | 0, d => by rw [shiftDown]
  | j + 1, d => by
    rw [shiftDown]
    split
    · rfl
    · rw [size_shiftDown, size_swp]
theorem size_shiftUp (b : Nat) : ∀ (n j : Nat) (d : Array Int), b - j ≤ n → (shiftUp ltInt b j d).size = d.size
  | 0, j, d, h => by rw [shiftUp, if_neg (by omega)]
  | n + 1, j, d, h => by
    rw [shiftUp]
    split
    · split
      · rfl
      · rw [size_shiftUp b n (j + 1) _ (by omega), size_swp]
    · rfl

section
variable {w W : World} {g off N : Nat} {x : Array Int} (cap : Nat)
set_option maxHeartbeats 4000000 in
set_option maxRecDepth 100000 in
theorem upins2_calls (h : RowU w g off W x) (hN : x.size = N) (a b : Nat) (hab : a < b) (hb : b ≤ N) (hsz : N < 4611686018427387904) :
    Calls Tryz.prog 241 #[.slice (some ⟨g, off, none⟩) N cap, .int .i64 a, .int .i64 b] W fun e W' =>
      e = .returned (.bool (Sort.partialInsertionSort ltInt x a b).2) ∧ RowU w g off W' (Sort.partialInsertionSort ltInt x a b).1 := by
  obtain ⟨R, hR⟩ : ∃ R, Sort.partialInsertionSort ltInt x a b = R := ⟨_, rfl⟩
  rw [hR]
  have hR0 : partialIns ltInt a b (5 - 0) (a + 1) x = R := hR
  clear hR
  go_enter Tryz.func241, Tryz.ntmps241
  go_wp2
  go_loopw [7, 8] (fun vi vs wr => ∃ (i s : Nat) (y : Array Int), vi = .int .i64 i ∧ vs = .int .i64 s ∧ s ≤ 5 ∧ a < i ∧ i ≤ b ∧ y.size = N ∧ RowU w g off wr y ∧ partialIns ltInt a b (5 - s) i y = R) (fun _ vs _ => 5 - (intOf vs).toNat)
  case atStart => exact ⟨a + 1, 0, x, by go_num, by go_num, by omega, by omega, by omega, hN, h, hR0⟩
  case round =>
    clear h hR0
    obtain ⟨i, s, y, rfl, rfl, hs5, hai, hib, hyN, hRy, hL⟩ := hrel
    by_cases hs : s < 5
    · have hLs : partialIns ltInt a b ((5 - (s + 1)) + 1) i y = R := by rw [show 5 - (s + 1) + 1 = 5 - s by omega]; exact hL
      rw [partialIns_succ] at hLs
      have HL := Lib.hid hLs
      clear hLs hL
      obtain ⟨G, hG⟩ := getG y
      have HG := Lib.hid hG
      clear hG
      go_wp2
      go_loopw [7] (fun vi wr => ∃ i' : Nat, vi = .int .i64 i' ∧ a < i' ∧ i' ≤ b ∧ RowU w g off wr y ∧ scanSorted ltInt y b i' = scanSorted ltInt y b i) (fun vi _ => b - (intOf vi).toNat)
      case atStart => exact ⟨i, rfl, hai, hib, hRy, rfl⟩
      case round =>
        clear hRy hai hib
        obtain ⟨i', rfl, hai, hib, hRu, hSu⟩ := hrel
        have hcw := hRu.cells hyN HG.out
        have hfw := hRu.frz hyN
        have HU := Lib.hid hRu
        have HS := Lib.hid hSu
        clear hRu hSu
        by_cases hlt : i' < b
        · cases hl : ltInt (G i') (G (i' - 1))
          · -- it rises here
            go_wp2
            go_quiet (first | (go_at_call 242; refine Calls.quiet_of_same (uless_calls _ _ _)))
            go_wp2
            go_roundw
            case rel =>
              refine ⟨i' + 1, by go_num, by omega, by omega, HU.out.drewN nq, ?_⟩
              rw [← HS.out]
              exact (scanSorted_go hlt (by rw [← HG.out, ← HG.out]; exact hl)).symm
            case measure => simp [intOf]; omega
          · -- it does not
            have hsu : scanSorted ltInt y b i = i' := by rw [← HS.out]; exact scanSorted_stop (.inr (by rw [← HG.out, ← HG.out]; exact hl))
            have HSE := Lib.hid hsu
            clear hsu
            by_cases h50 : b - a < 50
            ·
              go_wp2
              go_quiet (first | (go_at_call 242; refine Calls.quiet_of_same (uless_calls _ _ _)))
              go_wp2
              go_ret
              have e := HL.out
              rw [HSE.out, if_neg (by omega), if_pos h50] at e
              rw [← e]
              exact ⟨rfl, HU.out.drewN nq⟩
            · have e := HL.out
              rw [HSE.out, if_neg (by omega), if_neg h50] at e
              obtain ⟨y1, hy1⟩ : ∃ y1, swp y i' (i' - 1) = y1 := ⟨_, rfl⟩
              have hy1N : y1.size = N := by rw [← hy1, size_swp]; exact hyN
              rw [hy1] at e
              have HE := Lib.hid e
              have HY1 := Lib.hid hy1
              clear e hy1
              by_cases h2 : i' - a ≥ 2
              · -- the smaller one to the left
                have hfd : fixDown ltInt a i' y1 = shiftDown ltInt (i' - 1) y1 := by unfold fixDown; rw [if_pos h2]
                obtain ⟨y2, hy2⟩ : ∃ y2, shiftDown ltInt (i' - 1) y1 = y2 := ⟨_, rfl⟩
                have HD2 := Lib.hid (hfd.trans hy2)
                have HY2 := Lib.hid hy2
                clear hfd hy2
                go_wp2
                go_quiet (first | (go_at_call 242; refine Calls.quiet_of_same (uless_calls _ _ _)))
                go_wp2
                go_region
                all_goals go_wp2
                have hsw := HU.out.swap HG.out (j := i') (k := i' - 1) (by omega) (by omega) (nq + 1)
                rw [HY1.out] at hsw
                have HSW := Lib.hid hsw
                clear hsw
                clear hcw hfw
                go_loopw [9] (fun vj wr => ∃ (j : Nat) (z : Array Int), vj = .int .i64 j ∧ j < i' ∧ z.size = N ∧ RowU w g off wr z ∧ shiftDown ltInt j z = y2) (fun vj _ => (intOf vj).toNat)
                case atStart => exact ⟨i' - 1, y1, by go_num, by omega, hy1N, HSW.out, HY2.out⟩
                case round =>
                  clear hl
                  obtain ⟨j, z, rfl, hji, hzN, hRz, hZ⟩ := hrel
                  obtain ⟨G3, hG3⟩ := getG z
                  have hcw := hRz.cells hzN hG3
                  have hfw := hRz.frz hzN
                  have HRz := Lib.hid hRz
                  have HZ := Lib.hid hZ
                  have HG3 := Lib.hid hG3
                  clear hRz hZ hG3
                  by_cases hj1 : 1 ≤ j
                  · cases hl : ltInt (G3 j) (G3 (j - 1))
                    · have hz : z = y2 := by rw [← HZ.out]; exact (shiftDown_stop (.inr (by rw [← HG3.out, ← HG3.out]; exact hl))).symm
                      subst hz
                      by_cases h3 : b - i' ≥ 2
                      · have hfu : fixUp ltInt b i' z = shiftUp ltInt b (i' + 1) z := by unfold fixUp; rw [if_pos h3]
                        obtain ⟨y3, hy3⟩ : ∃ y3, shiftUp ltInt b (i' + 1) z = y3 := ⟨_, rfl⟩
                        have HD3 := Lib.hid (hfu.trans hy3)
                        have HY3 := Lib.hid hy3
                        clear hfu hy3
                        go_wp2
                        go_quiet (first | (go_at_call 242; refine Calls.quiet_of_same (uless_calls _ _ _)))
                        go_wp2
                        clear hcw hfw
                        go_loopw [10] (fun vj wr => ∃ (j : Nat) (z : Array Int), vj = .int .i64 j ∧ i' < j ∧ j ≤ b ∧ z.size = N ∧ RowU w g off wr z ∧ shiftUp ltInt b j z = y3) (fun vj _ => b - (intOf vj).toNat)
                        case atStart => exact ⟨i' + 1, z, by go_num, by omega, by omega, hzN, HRz.out.drewN nq, HY3.out⟩
                        case round =>
                          clear hl
                          obtain ⟨j, z, rfl, hji, hjb, hzN, hRz, hZ⟩ := hrel
                          obtain ⟨G4, hG4⟩ := getG z
                          have hcw := hRz.cells hzN hG4
                          have hfw := hRz.frz hzN
                          have HRz := Lib.hid hRz
                          have HZ := Lib.hid hZ
                          have HG4 := Lib.hid hG4
                          clear hRz hZ hG4
                          by_cases hjb2 : j < b
                          · cases hl : ltInt (G4 j) (G4 (j - 1))
                            · have hz : z = y3 := by rw [← HZ.out]; exact (shiftUp_stop (.inr (by rw [← HG4.out, ← HG4.out]; exact hl))).symm
                              have HZ3 := Lib.hid hz
                              clear hz
                              go_wp2
                              go_quiet (first | (go_at_call 242; refine Calls.quiet_of_same (uless_calls _ _ _)))
                              go_wp2
                              go_roundw
                              case rel =>
                                refine ⟨i', s + 1, z, by go_num, by go_num, by omega, hai, hib, hzN, HRz.out.drewN nq, ?_⟩
                                have e := HE.out
                                rw [HD2.out, HD3.out, ← HZ3.out] at e
                                exact e
                              case measure => simp [intOf]; omega
                            ·
                              go_wp2
                              go_quiet (first | (go_at_call 242; refine Calls.quiet_of_same (uless_calls _ _ _)))
                              go_wp2
                              go_region
                              all_goals go_wp2
                              go_roundw
                              case rel =>
                                refine ⟨j + 1, swp z j (j - 1), by go_num, by omega, by omega, by rw [size_swp]; exact hzN, HRz.out.swap HG4.out (by omega) (by omega) (nq + 1), ?_⟩
                                rw [← HZ.out]
                                exact (shiftUp_go hjb2 (by rw [← HG4.out, ← HG4.out]; exact hl)).symm
                              case measure => simp [intOf]; omega
                          · have hz : z = y3 := by rw [← HZ.out]; exact (shiftUp_stop (.inl (by omega))).symm
                            have HZ3 := Lib.hid hz
                            clear hz
                            go_wp2
                            go_roundw
                            case rel =>
                              refine ⟨i', s + 1, z, by go_num, by go_num, by omega, hai, hib, hzN, HRz.out, ?_⟩
                              have e := HE.out
                              rw [HD2.out, HD3.out, ← HZ3.out] at e
                              exact e
                            case measure => simp [intOf]; omega
                      · have hfu : fixUp ltInt b i' z = z := by unfold fixUp; rw [if_neg h3]
                        have HD3 := Lib.hid hfu
                        clear hfu
                        go_wp2
                        go_quiet (first | (go_at_call 242; refine Calls.quiet_of_same (uless_calls _ _ _)))
                        go_wp2
                        go_roundw
                        case rel =>
                          refine ⟨i', s + 1, z, by go_num, by go_num, by omega, hai, hib, hzN, HRz.out.drewN nq, ?_⟩
                          have e := HE.out
                          rw [HD2.out, HD3.out] at e
                          exact e
                        case measure => simp [intOf]; omega
                    ·
                      go_wp2
                      go_quiet (first | (go_at_call 242; refine Calls.quiet_of_same (uless_calls _ _ _)))
                      go_wp2
                      go_region
                      all_goals go_wp2
                      go_roundw
                      case rel =>
                        refine ⟨j - 1, swp z j (j - 1), by go_num, by omega, by rw [size_swp]; exact hzN, HRz.out.swap HG3.out (by omega) (by omega) (nq + 1), ?_⟩
                        rw [← HZ.out]
                        exact (shiftDown_go (by omega) (by rw [← HG3.out, ← HG3.out]; exact hl)).symm
                      case measure => simp [intOf]; omega
                  · have hz : z = y2 := by rw [← HZ.out]; exact (shiftDown_stop (.inl (by omega))).symm
                    subst hz
                    have hl := hj1
                    by_cases h3 : b - i' ≥ 2
                    · have hfu : fixUp ltInt b i' z = shiftUp ltInt b (i' + 1) z := by unfold fixUp; rw [if_pos h3]
                      obtain ⟨y3, hy3⟩ : ∃ y3, shiftUp ltInt b (i' + 1) z = y3 := ⟨_, rfl⟩
                      have HD3 := Lib.hid (hfu.trans hy3)
                      have HY3 := Lib.hid hy3
                      clear hfu hy3
                      go_wp2
                      clear hcw hfw
                      go_loopw [10] (fun vj wr => ∃ (j : Nat) (z : Array Int), vj = .int .i64 j ∧ i' < j ∧ j ≤ b ∧ z.size = N ∧ RowU w g off wr z ∧ shiftUp ltInt b j z = y3) (fun vj _ => b - (intOf vj).toNat)
                      case atStart => exact ⟨i' + 1, z, by go_num, by omega, by omega, hzN, HRz.out, HY3.out⟩
                      case round =>
                        clear hl
                        obtain ⟨j, z, rfl, hji, hjb, hzN, hRz, hZ⟩ := hrel
                        obtain ⟨G4, hG4⟩ := getG z
                        have hcw := hRz.cells hzN hG4
                        have hfw := hRz.frz hzN
                        have HRz := Lib.hid hRz
                        have HZ := Lib.hid hZ
                        have HG4 := Lib.hid hG4
                        clear hRz hZ hG4
                        by_cases hjb2 : j < b
                        · cases hl : ltInt (G4 j) (G4 (j - 1))
                          · have hz : z = y3 := by rw [← HZ.out]; exact (shiftUp_stop (.inr (by rw [← HG4.out, ← HG4.out]; exact hl))).symm
                            have HZ3 := Lib.hid hz
                            clear hz
                            go_wp2
                            go_quiet (first | (go_at_call 242; refine Calls.quiet_of_same (uless_calls _ _ _)))
                            go_wp2
                            go_roundw
                            case rel =>
                              refine ⟨i', s + 1, z, by go_num, by go_num, by omega, hai, hib, hzN, HRz.out.drewN nq, ?_⟩
                              have e := HE.out
                              rw [HD2.out, HD3.out, ← HZ3.out] at e
                              exact e
                            case measure => simp [intOf]; omega
                          ·
                            go_wp2
                            go_quiet (first | (go_at_call 242; refine Calls.quiet_of_same (uless_calls _ _ _)))
                            go_wp2
                            go_region
                            all_goals go_wp2
                            go_roundw
                            case rel =>
                              refine ⟨j + 1, swp z j (j - 1), by go_num, by omega, by omega, by rw [size_swp]; exact hzN, HRz.out.swap HG4.out (by omega) (by omega) (nq + 1), ?_⟩
                              rw [← HZ.out]
                              exact (shiftUp_go hjb2 (by rw [← HG4.out, ← HG4.out]; exact hl)).symm
                            case measure => simp [intOf]; omega
                        · have hz : z = y3 := by rw [← HZ.out]; exact (shiftUp_stop (.inl (by omega))).symm
                          have HZ3 := Lib.hid hz
                          clear hz
                          go_wp2
                          go_roundw
                          case rel =>
                            refine ⟨i', s + 1, z, by go_num, by go_num, by omega, hai, hib, hzN, HRz.out, ?_⟩
                            have e := HE.out
                            rw [HD2.out, HD3.out, ← HZ3.out] at e
                            exact e
                          case measure => simp [intOf]; omega
                    · have hfu : fixUp ltInt b i' z = z := by unfold fixUp; rw [if_neg h3]
                      have HD3 := Lib.hid hfu
                      clear hfu
                      go_wp2
                      go_roundw
                      case rel =>
                        refine ⟨i', s + 1, z, by go_num, by go_num, by omega, hai, hib, hzN, HRz.out, ?_⟩
                        have e := HE.out
                        rw [HD2.out, HD3.out] at e
                        exact e
                      case measure => simp [intOf]; omega
              · -- none to the left
                have hfd : fixDown ltInt a i' y1 = y1 := by unfold fixDown; rw [if_neg h2]
                have HD2 := Lib.hid hfd
                clear hfd
                by_cases h3 : b - i' ≥ 2
                · have hfu : fixUp ltInt b i' y1 = shiftUp ltInt b (i' + 1) y1 := by unfold fixUp; rw [if_pos h3]
                  obtain ⟨y3, hy3⟩ : ∃ y3, shiftUp ltInt b (i' + 1) y1 = y3 := ⟨_, rfl⟩
                  have HD3 := Lib.hid (hfu.trans hy3)
                  have HY3 := Lib.hid hy3
                  clear hfu hy3
                  go_wp2
                  go_quiet (first | (go_at_call 242; refine Calls.quiet_of_same (uless_calls _ _ _)))
                  go_wp2
                  go_region
                  all_goals go_wp2
                  have hsw := HU.out.swap HG.out (j := i') (k := i' - 1) (by omega) (by omega) (nq + 1)
                  rw [HY1.out] at hsw
                  have HSW := Lib.hid hsw
                  clear hsw
                  clear hcw hfw
                  go_loopw [10] (fun vj wr => ∃ (j : Nat) (z : Array Int), vj = .int .i64 j ∧ i' < j ∧ j ≤ b ∧ z.size = N ∧ RowU w g off wr z ∧ shiftUp ltInt b j z = y3) (fun vj _ => b - (intOf vj).toNat)
                  case atStart => exact ⟨i' + 1, y1, by go_num, by omega, by omega, hy1N, HSW.out, HY3.out⟩
                  case round =>
                    clear hl
                    obtain ⟨j, z, rfl, hji, hjb, hzN, hRz, hZ⟩ := hrel
                    obtain ⟨G4, hG4⟩ := getG z
                    have hcw := hRz.cells hzN hG4
                    have hfw := hRz.frz hzN
                    have HRz := Lib.hid hRz
                    have HZ := Lib.hid hZ
                    have HG4 := Lib.hid hG4
                    clear hRz hZ hG4
                    by_cases hjb2 : j < b
                    · cases hl : ltInt (G4 j) (G4 (j - 1))
                      · have hz : z = y3 := by rw [← HZ.out]; exact (shiftUp_stop (.inr (by rw [← HG4.out, ← HG4.out]; exact hl))).symm
                        have HZ3 := Lib.hid hz
                        clear hz
                        go_wp2
                        go_quiet (first | (go_at_call 242; refine Calls.quiet_of_same (uless_calls _ _ _)))
                        go_wp2
                        go_roundw
                        case rel =>
                          refine ⟨i', s + 1, z, by go_num, by go_num, by omega, hai, hib, hzN, HRz.out.drewN nq, ?_⟩
                          have e := HE.out
                          rw [HD2.out, HD3.out, ← HZ3.out] at e
                          exact e
                        case measure => simp [intOf]; omega
                      ·
                        go_wp2
                        go_quiet (first | (go_at_call 242; refine Calls.quiet_of_same (uless_calls _ _ _)))
                        go_wp2
                        go_region
                        all_goals go_wp2
                        go_roundw
                        case rel =>
                          refine ⟨j + 1, swp z j (j - 1), by go_num, by omega, by omega, by rw [size_swp]; exact hzN, HRz.out.swap HG4.out (by omega) (by omega) (nq + 1), ?_⟩
                          rw [← HZ.out]
                          exact (shiftUp_go hjb2 (by rw [← HG4.out, ← HG4.out]; exact hl)).symm
                        case measure => simp [intOf]; omega
                    · have hz : z = y3 := by rw [← HZ.out]; exact (shiftUp_stop (.inl (by omega))).symm
                      have HZ3 := Lib.hid hz
                      clear hz
                      go_wp2
                      go_roundw
                      case rel =>
                        refine ⟨i', s + 1, z, by go_num, by go_num, by omega, hai, hib, hzN, HRz.out, ?_⟩
                        have e := HE.out
                        rw [HD2.out, HD3.out, ← HZ3.out] at e
                        exact e
                      case measure => simp [intOf]; omega
                · exfalso; omega
        · -- all rise
          have hbi : i' = b := by omega
          have hsu : scanSorted ltInt y b i = i' := by rw [← HS.out]; exact scanSorted_stop (.inl (by omega))
          have HSE := Lib.hid hsu
          clear hsu
          go_wp2
          go_quiet (first | (go_at_call 242; refine Calls.quiet_of_same (uless_calls _ _ _)))
          go_wp2
          go_ret
          have e := HL.out
          rw [HSE.out, if_pos hbi] at e
          rw [← e]
          exact ⟨rfl, HU.out.drewN nq⟩
    · have : s = 5 := by omega
      subst this
      go_wp2
      go_ret
      have e : (y, false) = R := hL
      rw [← e]
      exact ⟨rfl, hRy⟩
end
end Go.Proofs.YtanjgeacmpmjhaaGreatDoor
