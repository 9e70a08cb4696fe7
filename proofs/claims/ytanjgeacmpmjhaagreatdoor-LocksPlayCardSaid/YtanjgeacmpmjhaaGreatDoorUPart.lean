import Derived.Test.YtanjgeacmpmjhaaGreatDoorMgLocksPlay6
import Derived.Sort.LotC
set_option linter.unusedVariables false
set_option linter.unusedSimpArgs false
set_option linter.unusedSectionVars false
namespace Go.Proofs.YtanjgeacmpmjhaaGreatDoor
open Go.RowKit
open Go.Sort (Holds putRow swp PermIn SortedIn ltInt holds_putRow holds_ahead putRow_self permIn_refl permIn_trans swp_permIn size_swp partEqLoop partEqLoop_eq partLoop partLoop_eq)

theorem scanUp_go {p : Int → Bool} {d : Array Int} {j i : Nat} (h : i ≤ j) (hp : p d[i]! = true) : Sort.scanUp p d j i = Sort.scanUp p d j (i + 1) := by
  rw [Sort.scanUp, if_pos (by simp [h, hp])]
theorem scanUp_stop {p : Int → Bool} {d : Array Int} {j i : Nat} (h : j < i ∨ p d[i]! = false) : Sort.scanUp p d j i = i := by
  rw [Sort.scanUp, if_neg]
  rcases h with h | h
  · simp; omega
  · simp [h]
theorem scanDown_go {p : Int → Bool} {d : Array Int} {j i : Nat} (h0 : 0 < j) (h : i ≤ j) (hp : p d[j]! = true) : Sort.scanDown p d i j = Sort.scanDown p d i (j - 1) := by
  obtain ⟨k, rfl⟩ : ∃ k, j = k + 1 := ⟨j - 1, by omega⟩
  rw [Sort.scanDown, if_pos (by simp [h, hp])]; rfl
theorem scanDown_stop {p : Int → Bool} {d : Array Int} {j i : Nat} (h : j < i ∨ p d[j]! = false) : Sort.scanDown p d i j = j := by
  cases j with
  | zero => rw [Sort.scanDown]
  | succ k =>
    rw [Sort.scanDown, if_neg]
    rcases h with h | h
    · simp; omega
    · simp [h]

section
variable {w W : World} {g off N : Nat} {x : Array Int} (cap : Nat)

set_option maxHeartbeats 2000000 in
set_option maxRecDepth 100000 in
theorem upeq_calls (h : RowU w g off W x) (hN : x.size = N) (a b p : Nat) (hap : a ≤ p) (hpb : p < b) (hb : b ≤ N) (hsz : N < 4611686018427387904) :
    Calls Tryz.prog 243 #[.slice (some ⟨g, off, none⟩) N cap, .int .i64 a, .int .i64 b, .int .i64 p] W fun e W' =>
      e = .returned (.int .i64 ((Sort.partitionEqual ltInt x a b p).1 : Nat)) ∧ RowU w g off W' (Sort.partitionEqual ltInt x a b p).2 := by
  obtain ⟨R, hR⟩ : ∃ R, Sort.partitionEqual ltInt x a b p = R := ⟨_, rfl⟩
  rw [hR]
  have HR0 := Lib.hid (show partEqLoop ltInt a (a + 1) (b - 1) (swp x a p) = R from hR)
  have hxs := Lib.hid (show (swp x a p).size = N from (size_swp _ _ _).trans hN)
  clear hR
  obtain ⟨G0, hG0⟩ := getG x
  have hcw := h.cells hN hG0
  have hfw := h.frz hN
  have H := Lib.hid h
  have HG0 := Lib.hid hG0
  have HN := Lib.hid hN
  clear h hG0 hN
  have hor : a = p ∨ a < p := by omega
  go_enter Tryz.func243, Tryz.ntmps243
  rcases hor with rfl | hlt
  all_goals
    go_wp2
    go_region
    all_goals go_wp2
    go_loopw [9, 10] (fun vi vj wr => ∃ (i j : Nat) (y : Array Int), vi = .int .i64 i ∧ vj = .int .i64 j ∧ a < i ∧ i ≤ j + 1 ∧ j < b ∧ y.size = N ∧ RowU w g off wr y ∧ partEqLoop ltInt a i j y = R) (fun vi vj _ => (intOf vj + 1 - intOf vi).toNat)
    case atStart =>
      refine ⟨a + 1, b - 1, _, by go_num, by go_num, by omega, by omega, by omega, hxs.out, ?_, HR0.out⟩
      exact H.out.swap HG0.out (by have := HN.out; omega) (by have := HN.out; omega) 1
    case round =>
      clear hcw hfw
      obtain ⟨i, j, y, rfl, rfl, hai, hij, hjb, hyN, hRy, hLy⟩ := hrel
      obtain ⟨G, hG⟩ := getG y
      have HG1 := Lib.hid hG
      have HR := Lib.hid hRy
      have HL := Lib.hid ((partEqLoop_eq ltInt a i j y).symm.trans hLy)
      clear hG hRy hLy
      go_wp2
      go_loopw [9] (fun vi wr => ∃ i' : Nat, vi = .int .i64 i' ∧ i ≤ i' ∧ i' ≤ j + 1 ∧ RowU w g off wr y ∧ Sort.scanUp (fun z => !ltInt y[a]! z) y j i' = Sort.scanUp (fun z => !ltInt y[a]! z) y j i) (fun vi _ => j + 1 - (intOf vi).toNat)
      case atStart => exact ⟨i, by go_num, Nat.le_refl _, by omega, HR.out, rfl⟩
      case round =>
        obtain ⟨i1, rfl, hi1, hi2, hRu, hSu⟩ := hrel
        have hcw := hRu.cells hyN HG1.out
        have hfw := hRu.frz hyN
        have HU1 := Lib.hid hRu
        have HSU1 := Lib.hid hSu
        clear hRu hSu
        by_cases hle : i1 ≤ j
        · skip
          cases hl : ltInt (G a) (G i1)
          · go_wp2
            go_quiet (first | (go_at_call 242; refine Calls.quiet_of_same (uless_calls _ _ _)))
            go_wp2
            go_roundw
            case rel =>
              refine ⟨i1 + 1, by go_num, by omega, by omega, HU1.out.drewN nq, ?_⟩
              rw [← HSU1.out]
              exact (scanUp_go hle (by (try dsimp only); rw [← HG1.out, ← HG1.out, hl]; (try rfl))).symm
            case measure => simp [intOf]; omega
          · go_wp2
            go_quiet (first | (go_at_call 242; refine Calls.quiet_of_same (uless_calls _ _ _)))
            go_wp2
            have hsu : Sort.scanUp (fun z => !ltInt y[a]! z) y j i = i1 := by rw [← HSU1.out]; exact scanUp_stop (.inr (by (try dsimp only); rw [← HG1.out, ← HG1.out, hl]; (try rfl)))
            have HSUE := Lib.hid hsu
            clear hsu hcw hfw
            have HQ1 := HU1.out.drewN nq
            generalize wr.drewN nq = wq1 at HQ1 ⊢
            (try clear nq)
            go_loopw [10] (fun vj wr => ∃ j' : Nat, vj = .int .i64 j' ∧ j' ≤ j ∧ i1 ≤ j' + 1 ∧ RowU w g off wr y ∧ Sort.scanDown (fun z => ltInt y[a]! z) y i1 j' = Sort.scanDown (fun z => ltInt y[a]! z) y i1 j) (fun vj _ => (intOf vj).toNat)
            case atStart => exact ⟨j, by go_num, Nat.le_refl _, by omega, HQ1, rfl⟩
            case round =>
              obtain ⟨j1, rfl, hj1, hj2, hRd, hSd⟩ := hrel
              have hcw := hRd.cells hyN HG1.out
              have hfw := hRd.frz hyN
              have HD1 := Lib.hid hRd
              have HSD1 := Lib.hid hSd
              clear hRd hSd
              by_cases hle2 : i1 ≤ j1
              · cases hl2 : ltInt (G a) (G j1)
                · go_wp2
                  go_quiet (first | (go_at_call 242; refine Calls.quiet_of_same (uless_calls _ _ _)))
                  go_wp2
                  have hsd : Sort.scanDown (fun z => ltInt y[a]! z) y i1 j = j1 := by rw [← HSD1.out]; exact scanDown_stop (.inr (by (try dsimp only); rw [← HG1.out, ← HG1.out, hl2]; (try rfl)))
                  have HSDE := Lib.hid hsd
                  clear hsd
                  have hne : i1 ≠ j1 := fun e => by rw [e, hl2] at hl; cases hl
                  go_wp2
                  go_region
                  all_goals go_wp2
                  go_roundw
                  case rel =>
                    refine ⟨i1 + 1, j1 - 1, swp y i1 j1, by go_num, by go_num, by omega, by omega, by omega, by rw [size_swp]; exact hyN, HD1.out.swap HG1.out (by omega) (by omega) (nq + 1), ?_⟩
                    have e := HL.out
                    rw [HSUE.out, HSDE.out, if_neg (by omega)] at e
                    exact e
                  case measure => simp [intOf]; omega
                · go_wp2
                  go_quiet (first | (go_at_call 242; refine Calls.quiet_of_same (uless_calls _ _ _)))
                  go_wp2
                  go_roundw
                  case rel =>
                    refine ⟨j1 - 1, by go_num, by omega, by omega, HD1.out.drewN nq, ?_⟩
                    rw [← HSD1.out]
                    exact (scanDown_go (by omega) hle2 (by (try dsimp only); rw [← HG1.out, ← HG1.out, hl2]; (try rfl))).symm
                  case measure => simp [intOf]; omega
              · go_wp2
                go_quiet (first | (go_at_call 242; refine Calls.quiet_of_same (uless_calls _ _ _)))
                go_wp2
                have hsd : Sort.scanDown (fun z => ltInt y[a]! z) y i1 j = j1 := by rw [← HSD1.out]; exact scanDown_stop (.inl (by omega))
                have HSDE := Lib.hid hsd
                clear hsd
                go_wp2
                go_ret
                have e := HL.out
                rw [HSUE.out, HSDE.out, if_pos (by omega)] at e
                rw [← e]
                exact ⟨rfl, HD1.out.drewN nq⟩
        · skip
          go_wp2
          go_quiet (first | (go_at_call 242; refine Calls.quiet_of_same (uless_calls _ _ _)))
          go_wp2
          have hsu : Sort.scanUp (fun z => !ltInt y[a]! z) y j i = i1 := by rw [← HSU1.out]; exact scanUp_stop (.inl (by omega))
          have HSUE := Lib.hid hsu
          clear hsu hcw hfw
          have HQ1 := HU1.out.drewN nq
          generalize wr.drewN nq = wq1 at HQ1 ⊢
          (try clear nq)
          go_loopw [10] (fun vj wr => ∃ j' : Nat, vj = .int .i64 j' ∧ j' ≤ j ∧ i1 ≤ j' + 1 ∧ RowU w g off wr y ∧ Sort.scanDown (fun z => ltInt y[a]! z) y i1 j' = Sort.scanDown (fun z => ltInt y[a]! z) y i1 j) (fun vj _ => (intOf vj).toNat)
          case atStart => exact ⟨j, by go_num, Nat.le_refl _, by omega, HQ1, rfl⟩
          case round =>
            obtain ⟨j1, rfl, hj1, hj2, hRd, hSd⟩ := hrel
            have hcw := hRd.cells hyN HG1.out
            have hfw := hRd.frz hyN
            have HD1 := Lib.hid hRd
            have HSD1 := Lib.hid hSd
            clear hRd hSd
            by_cases hle2 : i1 ≤ j1
            · omega
            · go_wp2
              go_quiet (first | (go_at_call 242; refine Calls.quiet_of_same (uless_calls _ _ _)))
              go_wp2
              have hsd : Sort.scanDown (fun z => ltInt y[a]! z) y i1 j = j1 := by rw [← HSD1.out]; exact scanDown_stop (.inl (by omega))
              have HSDE := Lib.hid hsd
              clear hsd
              go_wp2
              go_ret
              have e := HL.out
              rw [HSUE.out, HSDE.out, if_pos (by omega)] at e
              rw [← e]
              exact ⟨rfl, HD1.out.drewN nq⟩

set_option maxHeartbeats 4000000 in
set_option maxRecDepth 100000 in
theorem upart_calls (h : RowU w g off W x) (hN : x.size = N) (a b p : Nat) (hap : a ≤ p) (hpb : p < b) (hb : b ≤ N) (hsz : N < 4611686018427387904) :
    Calls Tryz.prog 244 #[.slice (some ⟨g, off, none⟩) N cap, .int .i64 a, .int .i64 b, .int .i64 p] W fun e W' =>
      e = .returned (.tuple #[.int .i64 ((Sort.partition ltInt x a b p).1 : Nat), .bool (Sort.partition ltInt x a b p).2.1]) ∧ RowU w g off W' (Sort.partition ltInt x a b p).2.2 := by
  obtain ⟨R, hR⟩ : ∃ R, Sort.partition ltInt x a b p = R := ⟨_, rfl⟩
  rw [hR]
  obtain ⟨d, hd⟩ : ∃ d, swp x a p = d := ⟨_, rfl⟩
  have hyN : d.size = N := by rw [← hd]; exact (size_swp _ _ _).trans hN
  have hPe : (if Sort.scanUp (fun z => ltInt z d[a]!) d (b - 1) (a + 1) > Sort.scanDown (fun z => !ltInt z d[a]!) d (Sort.scanUp (fun z => ltInt z d[a]!) d (b - 1) (a + 1)) (b - 1) then (Sort.scanDown (fun z => !ltInt z d[a]!) d (Sort.scanUp (fun z => ltInt z d[a]!) d (b - 1) (a + 1)) (b - 1), true, swp d (Sort.scanDown (fun z => !ltInt z d[a]!) d (Sort.scanUp (fun z => ltInt z d[a]!) d (b - 1) (a + 1)) (b - 1)) a) else
      ((partLoop ltInt a (Sort.scanUp (fun z => ltInt z d[a]!) d (b - 1) (a + 1) + 1) (Sort.scanDown (fun z => !ltInt z d[a]!) d (Sort.scanUp (fun z => ltInt z d[a]!) d (b - 1) (a + 1)) (b - 1) - 1) (swp d (Sort.scanUp (fun z => ltInt z d[a]!) d (b - 1) (a + 1)) (Sort.scanDown (fun z => !ltInt z d[a]!) d (Sort.scanUp (fun z => ltInt z d[a]!) d (b - 1) (a + 1)) (b - 1)))).1, false,
        swp (partLoop ltInt a (Sort.scanUp (fun z => ltInt z d[a]!) d (b - 1) (a + 1) + 1) (Sort.scanDown (fun z => !ltInt z d[a]!) d (Sort.scanUp (fun z => ltInt z d[a]!) d (b - 1) (a + 1)) (b - 1) - 1) (swp d (Sort.scanUp (fun z => ltInt z d[a]!) d (b - 1) (a + 1)) (Sort.scanDown (fun z => !ltInt z d[a]!) d (Sort.scanUp (fun z => ltInt z d[a]!) d (b - 1) (a + 1)) (b - 1)))).2
          (partLoop ltInt a (Sort.scanUp (fun z => ltInt z d[a]!) d (b - 1) (a + 1) + 1) (Sort.scanDown (fun z => !ltInt z d[a]!) d (Sort.scanUp (fun z => ltInt z d[a]!) d (b - 1) (a + 1)) (b - 1) - 1) (swp d (Sort.scanUp (fun z => ltInt z d[a]!) d (b - 1) (a + 1)) (Sort.scanDown (fun z => !ltInt z d[a]!) d (Sort.scanUp (fun z => ltInt z d[a]!) d (b - 1) (a + 1)) (b - 1)))).1 a)) = R := by
    rw [← hR, ← hd]; rfl
  have HP := Lib.hid hPe
  clear hPe hR
  obtain ⟨G0, hG0⟩ := getG x
  obtain ⟨G, hG⟩ := getG d
  have hcw := h.cells hN hG0
  have hfw := h.frz hN
  have H := Lib.hid h
  have HG0 := Lib.hid hG0
  have HG1 := Lib.hid hG
  have HN := Lib.hid hN
  have HDD := Lib.hid hd
  clear h hG0 hG hN hd
  have hor : a = p ∨ a < p := by omega
  go_enter Tryz.func244, Tryz.ntmps244
  rcases hor with rfl | hlt
  all_goals
    go_wp2
    go_region
    all_goals go_wp2
    first
      | have H1 := H.out.swap HG0.out (j := a) (k := p) (by have := HN.out; omega) (by have := HN.out; omega) 1
      | have H1 := H.out.swap HG0.out (j := a) (k := a) (by have := HN.out; omega) (by have := HN.out; omega) 1
    rw [HDD.out] at H1
    clear hcw hfw
    go_loopw [10] (fun vi wr => ∃ i' : Nat, vi = .int .i64 i' ∧ (a + 1) ≤ i' ∧ i' ≤ (b - 1) + 1 ∧ RowU w g off wr d ∧ Sort.scanUp (fun z => ltInt z d[a]!) d (b - 1) i' = Sort.scanUp (fun z => ltInt z d[a]!) d (b - 1) (a + 1)) (fun vi _ => (b - 1) + 1 - (intOf vi).toNat)
    case atStart => exact ⟨(a + 1), by go_num, Nat.le_refl _, by omega, H1, rfl⟩
    case round =>
      obtain ⟨i1, rfl, hi1, hi2, hRu, hSu⟩ := hrel
      have hcw := hRu.cells hyN HG1.out
      have hfw := hRu.frz hyN
      have HU1 := Lib.hid hRu
      have HSU1 := Lib.hid hSu
      clear hRu hSu
      by_cases hle : i1 ≤ (b - 1)
      · have hz1 : decide ((i1 : Int) ≤ (b : Int) - 1) = true := decide_eq_true (by omega)
        cases hl : ltInt (G i1) (G a)
        · go_wp2
          go_quiet (first | (go_at_call 242; refine Calls.quiet_of_same (uless_calls _ _ _)))
          go_wp2
          have hsu : Sort.scanUp (fun z => ltInt z d[a]!) d (b - 1) (a + 1) = i1 := by rw [← HSU1.out]; exact scanUp_stop (.inr (by (try dsimp only); rw [← HG1.out, ← HG1.out, hl]; (try rfl)))
          have HSUE := Lib.hid hsu
          clear hsu hcw hfw
          have HQ1 := HU1.out.drewN nq
          generalize wr.drewN nq = wq1 at HQ1 ⊢
          (try clear nq)
          go_loopw [11] (fun vj wr => ∃ j' : Nat, vj = .int .i64 j' ∧ j' ≤ (b - 1) ∧ i1 ≤ j' + 1 ∧ RowU w g off wr d ∧ Sort.scanDown (fun z => !ltInt z d[a]!) d i1 j' = Sort.scanDown (fun z => !ltInt z d[a]!) d i1 (b - 1)) (fun vj _ => (intOf vj).toNat)
          case atStart => exact ⟨(b - 1), by go_num, Nat.le_refl _, by omega, HQ1, rfl⟩
          case round =>
            obtain ⟨j1, rfl, hj1, hj2, hRd, hSd⟩ := hrel
            have hcw := hRd.cells hyN HG1.out
            have hfw := hRd.frz hyN
            have HD1 := Lib.hid hRd
            have HSD1 := Lib.hid hSd
            clear hRd hSd
            by_cases hle2 : i1 ≤ j1
            · cases hl2 : ltInt (G j1) (G a)
              · go_wp2
                go_quiet (first | (go_at_call 242; refine Calls.quiet_of_same (uless_calls _ _ _)))
                go_wp2
                go_roundw
                case rel =>
                  refine ⟨j1 - 1, by go_num, by omega, by omega, HD1.out.drewN nq, ?_⟩
                  rw [← HSD1.out]
                  exact (scanDown_go (by omega) hle2 (by (try dsimp only); rw [← HG1.out, ← HG1.out, hl2]; (try rfl))).symm
                case measure => simp [intOf]; omega
              · go_wp2
                go_quiet (first | (go_at_call 242; refine Calls.quiet_of_same (uless_calls _ _ _)))
                go_wp2
                have hsd : Sort.scanDown (fun z => !ltInt z d[a]!) d i1 (b - 1) = j1 := by rw [← HSD1.out]; exact scanDown_stop (.inr (by (try dsimp only); rw [← HG1.out, ← HG1.out, hl2]; (try rfl)))
                have HSDE := Lib.hid hsd
                clear hsd
                have hne : i1 ≠ j1 := fun e => by rw [e, hl2] at hl; cases hl
                go_wp2
                go_region
                all_goals go_wp2
                have e := HP.out
                rw [HSUE.out] at e
                rw [HSDE.out, if_neg (by omega)] at e
                obtain ⟨L, hL⟩ : ∃ L, partLoop ltInt a (i1 + 1) (j1 - 1) (swp d i1 j1) = L := ⟨_, rfl⟩
                rw [hL] at e
                have HT := Lib.hid e
                have HL0 := Lib.hid hL
                have HS0 := Lib.hid (show (swp d i1 j1).size = N by rw [size_swp]; exact hyN)
                clear e hL hcw hfw
                go_loopw [10, 11] (fun vi vj wr => ∃ (i j : Nat) (y : Array Int), vi = .int .i64 i ∧ vj = .int .i64 j ∧ a < i ∧ i ≤ j + 1 ∧ j < b ∧ y.size = N ∧ RowU w g off wr y ∧ partLoop ltInt a i j y = L) (fun vi vj _ => (intOf vj + 1 - intOf vi).toNat)
                case atStart =>
                  refine ⟨i1 + 1, j1 - 1, _, by go_num, by go_num, by omega, by omega, by omega, HS0.out, ?_, HL0.out⟩
                  exact HD1.out.swap HG1.out (by omega) (by omega) (nq + 1)
                case round =>
                  clear hl hl2 hne
                  obtain ⟨i, j, y, rfl, rfl, hai, hij, hjb, hyN, hRy, hLy⟩ := hrel
                  obtain ⟨G, hG⟩ := getG y
                  have HG2 := Lib.hid hG
                  have HR := Lib.hid hRy
                  have HL := Lib.hid ((partLoop_eq ltInt a i j y).symm.trans hLy)
                  clear hG hRy hLy
                  go_wp2
                  go_loopw [10] (fun vi wr => ∃ i' : Nat, vi = .int .i64 i' ∧ i ≤ i' ∧ i' ≤ j + 1 ∧ RowU w g off wr y ∧ Sort.scanUp (fun z => ltInt z y[a]!) y j i' = Sort.scanUp (fun z => ltInt z y[a]!) y j i) (fun vi _ => j + 1 - (intOf vi).toNat)
                  case atStart => exact ⟨i, by go_num, Nat.le_refl _, by omega, HR.out, rfl⟩
                  case round =>
                    obtain ⟨i2, rfl, hi1, hi2, hRu, hSu⟩ := hrel
                    have hcw := hRu.cells hyN HG2.out
                    have hfw := hRu.frz hyN
                    have HU2 := Lib.hid hRu
                    have HSU2 := Lib.hid hSu
                    clear hRu hSu
                    by_cases hle : i2 ≤ j
                    · skip
                      cases hl : ltInt (G i2) (G a)
                      · go_wp2
                        go_quiet (first | (go_at_call 242; refine Calls.quiet_of_same (uless_calls _ _ _)))
                        go_wp2
                        have hsu : Sort.scanUp (fun z => ltInt z y[a]!) y j i = i2 := by rw [← HSU2.out]; exact scanUp_stop (.inr (by (try dsimp only); rw [← HG2.out, ← HG2.out, hl]; (try rfl)))
                        have HSUE := Lib.hid hsu
                        clear hsu hcw hfw
                        have HQ2 := HU2.out.drewN nq
                        generalize wr.drewN nq = wq2 at HQ2 ⊢
                        (try clear nq)
                        go_loopw [11] (fun vj wr => ∃ j' : Nat, vj = .int .i64 j' ∧ j' ≤ j ∧ i2 ≤ j' + 1 ∧ RowU w g off wr y ∧ Sort.scanDown (fun z => !ltInt z y[a]!) y i2 j' = Sort.scanDown (fun z => !ltInt z y[a]!) y i2 j) (fun vj _ => (intOf vj).toNat)
                        case atStart => exact ⟨j, by go_num, Nat.le_refl _, by omega, HQ2, rfl⟩
                        case round =>
                          obtain ⟨j2, rfl, hj1, hj2, hRd, hSd⟩ := hrel
                          have hcw := hRd.cells hyN HG2.out
                          have hfw := hRd.frz hyN
                          have HD2 := Lib.hid hRd
                          have HSD2 := Lib.hid hSd
                          clear hRd hSd
                          by_cases hle2 : i2 ≤ j2
                          · cases hl2 : ltInt (G j2) (G a)
                            · go_wp2
                              go_quiet (first | (go_at_call 242; refine Calls.quiet_of_same (uless_calls _ _ _)))
                              go_wp2
                              go_roundw
                              case rel =>
                                refine ⟨j2 - 1, by go_num, by omega, by omega, HD2.out.drewN nq, ?_⟩
                                rw [← HSD2.out]
                                exact (scanDown_go (by omega) hle2 (by (try dsimp only); rw [← HG2.out, ← HG2.out, hl2]; (try rfl))).symm
                              case measure => simp [intOf]; omega
                            · go_wp2
                              go_quiet (first | (go_at_call 242; refine Calls.quiet_of_same (uless_calls _ _ _)))
                              go_wp2
                              have hsd : Sort.scanDown (fun z => !ltInt z y[a]!) y i2 j = j2 := by rw [← HSD2.out]; exact scanDown_stop (.inr (by (try dsimp only); rw [← HG2.out, ← HG2.out, hl2]; (try rfl)))
                              have HSDE := Lib.hid hsd
                              clear hsd
                              have hne : i2 ≠ j2 := fun e => by rw [e, hl2] at hl; cases hl
                              go_wp2
                              go_region
                              all_goals go_wp2
                              go_roundw
                              case rel =>
                                refine ⟨i2 + 1, j2 - 1, swp y i2 j2, by go_num, by go_num, by omega, by omega, by omega, by rw [size_swp]; exact hyN, HD2.out.swap HG2.out (by omega) (by omega) (nq + 1), ?_⟩
                                have e := HL.out
                                rw [HSUE.out, HSDE.out, if_neg (by omega)] at e
                                exact e
                              case measure => simp [intOf]; omega
                          · go_wp2
                            go_quiet (first | (go_at_call 242; refine Calls.quiet_of_same (uless_calls _ _ _)))
                            go_wp2
                            have hsd : Sort.scanDown (fun z => !ltInt z y[a]!) y i2 j = j2 := by rw [← HSD2.out]; exact scanDown_stop (.inl (by omega))
                            have HSDE := Lib.hid hsd
                            clear hsd
                            by_cases hja : j2 = a
                            all_goals
                              (try subst hja)
                              go_wp2
                              go_region
                              all_goals go_wp2
                              go_ret2
                              have e := HL.out
                              rw [HSUE.out, HSDE.out, if_pos (by omega)] at e
                              have e2 := HT.out
                              rw [← e] at e2
                              rw [← e2]
                              exact ⟨rfl, HD2.out.swap HG2.out (by omega) (by omega) (nq + 1)⟩
                      · go_wp2
                        go_quiet (first | (go_at_call 242; refine Calls.quiet_of_same (uless_calls _ _ _)))
                        go_wp2
                        go_roundw
                        case rel =>
                          refine ⟨i2 + 1, by go_num, by omega, by omega, HU2.out.drewN nq, ?_⟩
                          rw [← HSU2.out]
                          exact (scanUp_go hle (by (try dsimp only); rw [← HG2.out, ← HG2.out, hl]; (try rfl))).symm
                        case measure => simp [intOf]; omega
                    · skip
                      go_wp2
                      go_quiet (first | (go_at_call 242; refine Calls.quiet_of_same (uless_calls _ _ _)))
                      go_wp2
                      have hsu : Sort.scanUp (fun z => ltInt z y[a]!) y j i = i2 := by rw [← HSU2.out]; exact scanUp_stop (.inl (by omega))
                      have HSUE := Lib.hid hsu
                      clear hsu hcw hfw
                      have HQ2 := HU2.out.drewN nq
                      generalize wr.drewN nq = wq2 at HQ2 ⊢
                      (try clear nq)
                      go_loopw [11] (fun vj wr => ∃ j' : Nat, vj = .int .i64 j' ∧ j' ≤ j ∧ i2 ≤ j' + 1 ∧ RowU w g off wr y ∧ Sort.scanDown (fun z => !ltInt z y[a]!) y i2 j' = Sort.scanDown (fun z => !ltInt z y[a]!) y i2 j) (fun vj _ => (intOf vj).toNat)
                      case atStart => exact ⟨j, by go_num, Nat.le_refl _, by omega, HQ2, rfl⟩
                      case round =>
                        obtain ⟨j2, rfl, hj1, hj2, hRd, hSd⟩ := hrel
                        have hcw := hRd.cells hyN HG2.out
                        have hfw := hRd.frz hyN
                        have HD2 := Lib.hid hRd
                        have HSD2 := Lib.hid hSd
                        clear hRd hSd
                        by_cases hle2 : i2 ≤ j2
                        · omega
                        · go_wp2
                          go_quiet (first | (go_at_call 242; refine Calls.quiet_of_same (uless_calls _ _ _)))
                          go_wp2
                          have hsd : Sort.scanDown (fun z => !ltInt z y[a]!) y i2 j = j2 := by rw [← HSD2.out]; exact scanDown_stop (.inl (by omega))
                          have HSDE := Lib.hid hsd
                          clear hsd
                          by_cases hja : j2 = a
                          all_goals
                            (try subst hja)
                            go_wp2
                            go_region
                            all_goals go_wp2
                            go_ret2
                            have e := HL.out
                            rw [HSUE.out, HSDE.out, if_pos (by omega)] at e
                            have e2 := HT.out
                            rw [← e] at e2
                            rw [← e2]
                            exact ⟨rfl, HD2.out.swap HG2.out (by omega) (by omega) (nq + 1)⟩
            · go_wp2
              go_quiet (first | (go_at_call 242; refine Calls.quiet_of_same (uless_calls _ _ _)))
              go_wp2
              have hsd : Sort.scanDown (fun z => !ltInt z d[a]!) d i1 (b - 1) = j1 := by rw [← HSD1.out]; exact scanDown_stop (.inl (by omega))
              have HSDE := Lib.hid hsd
              clear hsd
              by_cases hja : j1 = a
              all_goals
                first
                  | (exfalso; omega)
                  | ((try subst hja)
                     go_wp2
                     go_region
                     all_goals go_wp2
                     go_ret2
                     have e := HP.out
                     rw [HSUE.out] at e
                     rw [HSDE.out, if_pos (by omega)] at e
                     rw [← e]
                     exact ⟨rfl, HD1.out.swap HG1.out (by omega) (by omega) (nq + 1)⟩)
        · go_wp2
          go_quiet (first | (go_at_call 242; refine Calls.quiet_of_same (uless_calls _ _ _)))
          go_wp2
          go_roundw
          case rel =>
            refine ⟨i1 + 1, by go_num, by omega, by omega, HU1.out.drewN nq, ?_⟩
            rw [← HSU1.out]
            exact (scanUp_go hle (by (try dsimp only); rw [← HG1.out, ← HG1.out, hl]; (try rfl))).symm
          case measure => simp [intOf]; omega
      · have hz1 : decide ((i1 : Int) ≤ (b : Int) - 1) = false := decide_eq_false (by omega)
        go_wp2
        go_quiet (first | (go_at_call 242; refine Calls.quiet_of_same (uless_calls _ _ _)))
        go_wp2
        have hsu : Sort.scanUp (fun z => ltInt z d[a]!) d (b - 1) (a + 1) = i1 := by rw [← HSU1.out]; exact scanUp_stop (.inl (by omega))
        have HSUE := Lib.hid hsu
        clear hsu hcw hfw
        have HQ1 := HU1.out.drewN nq
        generalize wr.drewN nq = wq1 at HQ1 ⊢
        (try clear nq)
        go_loopw [11] (fun vj wr => ∃ j' : Nat, vj = .int .i64 j' ∧ j' ≤ (b - 1) ∧ i1 ≤ j' + 1 ∧ RowU w g off wr d ∧ Sort.scanDown (fun z => !ltInt z d[a]!) d i1 j' = Sort.scanDown (fun z => !ltInt z d[a]!) d i1 (b - 1)) (fun vj _ => (intOf vj).toNat)
        case atStart => exact ⟨(b - 1), by go_num, Nat.le_refl _, by omega, HQ1, rfl⟩
        case round =>
          obtain ⟨j1, rfl, hj1, hj2, hRd, hSd⟩ := hrel
          have hcw := hRd.cells hyN HG1.out
          have hfw := hRd.frz hyN
          have HD1 := Lib.hid hRd
          have HSD1 := Lib.hid hSd
          clear hRd hSd
          by_cases hle2 : i1 ≤ j1
          · omega
          · go_wp2
            go_quiet (first | (go_at_call 242; refine Calls.quiet_of_same (uless_calls _ _ _)))
            go_wp2
            have hsd : Sort.scanDown (fun z => !ltInt z d[a]!) d i1 (b - 1) = j1 := by rw [← HSD1.out]; exact scanDown_stop (.inl (by omega))
            have HSDE := Lib.hid hsd
            clear hsd
            by_cases hja : j1 = a
            all_goals
              first
                | (exfalso; omega)
                | ((try subst hja)
                   go_wp2
                   go_region
                   all_goals go_wp2
                   go_ret2
                   have e := HP.out
                   rw [HSUE.out] at e
                   rw [HSDE.out, if_pos (by omega)] at e
                   rw [← e]
                   exact ⟨rfl, HD1.out.swap HG1.out (by omega) (by omega) (nq + 1)⟩)
end
end Go.Proofs.YtanjgeacmpmjhaaGreatDoor
