import Derived.Test.YtanjgeacmpmjhaaGreatDoorMgLocksPlay6
import Derived.Test.YtanjgeacmpmjhaaGreatDoorUPart
import Derived.Test.YtanjgeacmpmjhaaGreatDoorUPins
import Derived.Test.YtanjgeacmpmjhaaGreatDoorUHeap
import Derived.Test.YtanjgeacmpmjhaaGreatDoorUBreak
import Derived.Sort.LotD3
import Derived.Deep.Cut
import Derived.Deep.LoopGhost
set_option linter.unusedVariables false
set_option linter.unusedSimpArgs false
set_option linter.unusedSectionVars false
namespace Go.Proofs.YtanjgeacmpmjhaaGreatDoor
open Go.RowKit
open Go.Sort (Holds putRow swp PermIn SortedIn ltInt holds_putRow holds_ahead putRow_self permIn_refl permIn_trans swp_permIn size_swp swo_ltInt)

set_option maxHeartbeats 6400000 in
set_option maxRecDepth 1000000 in
theorem updqF_calls (cap N : Nat) (hsz : N < 4611686018427387904) : ∀ (m : Nat) {w W : World} {g off : Nat} {x : Array Int} (a b lim : Nat), b - a < m → RowU w g off W x → x.size = N → a ≤ b → b ≤ N → lim ≤ 100 → Sort.Below ltInt a b x →
    Calls Tryz.prog 216 #[.slice (some ⟨g, off, none⟩) N cap, .int .i64 a, .int .i64 b, .int .i64 lim] W fun e W' => e = .returned (.tuple #[]) ∧ ∃ y, RowU w g off W' y ∧ PermIn a b x y ∧ SortedIn ltInt a b y := by
  intro m
  induction m with
  | zero => intro w W g off x a b lim h; exact absurd h (Nat.not_lt_zero _)
  | succ m ih =>
    intro w W g off x a b lim hm hR0 hN hab hb hl hB0
    go_enter Tryz.func216, Tryz.ntmps216
    go_wp2
    go_loopg [1, 2, 3, 8, 9] (b - a) (fun k s1 s2 s3 s8 s9 wr => ∃ (a' b' l : Nat) (wb wp : Bool) (y : Array Int), s1 = .int .i64 a' ∧ s2 = .int .i64 b' ∧ s3 = .int .i64 l ∧ s8 = .bool wb ∧ s9 = .bool wp ∧
        a' ≤ b' ∧ b' ≤ N ∧ b' - a' ≤ k ∧ k ≤ b - a ∧ l ≤ 100 ∧ y.size = N ∧ Sort.Below ltInt a' b' y ∧ RowU w g off wr y ∧ (∀ z, PermIn a' b' y z → SortedIn ltInt a' b' z → PermIn a b x z ∧ SortedIn ltInt a b z))
    case atStart => exact ⟨a, b, lim, true, true, x, rfl, rfl, rfl, rfl, rfl, hab, hb, Nat.le_refl _, Nat.le_refl _, hl, hN, hB0, hR0, fun z h1 h2 => ⟨h1, h2⟩⟩
    case round =>
      obtain ⟨a', b', l, wb, wp, y, rfl, rfl, rfl, rfl, rfl, hab', hb', hk, hkN, hl', hyN, hB, hR, hK⟩ := hrel
      have HK := Lib.hid hK
      have HB := Lib.hid hB
      clear hK hB0 hR0 hB
      by_cases h12 : b' - a' ≤ 12
      · have h12z : (b' : Int) - (a' : Int) ≤ 12 := by omega
        have hc := uins_calls g off cap a' b' y wr hR.holds hab' (by omega) (by omega)
        rw [hyN] at hc
        go_wp2_with (go_at_call 236; refine hc.mono ?_; rintro e w1 ⟨rfl, n1, hw1⟩)
        (try simp only [Exit.inBlock, Exit.then]); refine bodyPost_ret (results_none rfl _ _ _) rfl ?_
        have hs := Sort.insertionSort_holds (lt := ltInt) swo_ltInt y a' b' hab' (by omega)
        obtain ⟨k1, k2⟩ := HK.out _ hs.1 hs.2
        exact ⟨rfl, _, by first | exact hR.put n1 _ hs.1.1 | (rw [hw1]; exact hR.put n1 _ hs.1.1), k1, k2⟩
      · have h12z : ¬ ((b' : Int) - (a' : Int) ≤ 12) := by omega
        by_cases hl0 : l = 0
        · subst hl0
          have hc := uheap_calls cap hR hyN a' b' (by omega) hb' hsz
          go_wp2_with (go_at_call 237; refine hc.mono ?_; rintro e w1 ⟨rfl, hR1⟩)
          (try simp only [Exit.inBlock, Exit.then]); refine bodyPost_ret (results_none rfl _ _ _) rfl ?_
          have hs := Sort.heapSort_holds (lt := ltInt) swo_ltInt y a' b' hab' (by omega)
          obtain ⟨k1, k2⟩ := HK.out _ hs.1 hs.2
          exact ⟨rfl, _, hR1, k1, k2⟩
        · have hl0z : ¬ ((l : Int) = 0) := by omega
          go_upto_if 35 with fail
          go_cut [3] from 19 (fun s3 wc => ∃ (l : Nat) (y1 : Array Int), s3 = .int .i64 l ∧ l ≤ 100 ∧ RowU w g off wc y1 ∧ PermIn a' b' y y1)
          case first =>
            cases wb
            · have hc := ubrk_calls cap hR hyN a' b' (by omega) hb' hsz
              go_wp2_with (go_at_call 238; refine hc.mono ?_; rintro e w1 ⟨rfl, y1, hR1, hP1⟩)
              go_meet
              case rel => exact ⟨l - 1, y1, by congr 1; omega, by omega, hR1, hP1⟩
            · go_wp2_with fail
              go_meet
              case rel => exact ⟨l, y, rfl, hl', hR, permIn_refl _ _ _⟩
          case rest =>
            obtain ⟨l1, y1, rfl, hl1, hR1, hP1⟩ := hcut
            have hc := upiv_calls cap hR1 (hP1.1.trans hyN) a' b' (by omega) hb' hsz
            go_upto_if 50 with (go_at_call 239; refine hc.mono ?_; rintro e w2 ⟨p, t, rfl, hp1, hp2, ht, hR2⟩)
            clear hc
            go_cut [11, 12] from 19 (fun s11 s12 wc => ∃ (p : Nat) (t : Int) (y2 : Array Int), s11 = .int .i64 p ∧ s12 = .int .i64 t ∧ (t = 0 ∨ t = 1) ∧ a' ≤ p ∧ p < b' ∧ RowU w g off wc y2 ∧ PermIn a' b' y y2)
            case first =>
              by_cases ht2 : t = 2
              · subst ht2
                have hc := urev_calls cap hR2 (hP1.1.trans hyN) a' b' hab' hb' hsz
                go_wp2_with (go_at_call 240; refine hc.mono ?_; rintro e w3 ⟨rfl, y2, hR3, hP2⟩)
                go_meet
                case rel => exact ⟨b' - 1 - (p - a'), 1, y2, by congr 1; omega, rfl, .inr rfl, by omega, by omega, hR3, permIn_trans _ _ _ _ _ hP1 hP2⟩
              · go_wp2_with fail
                go_meet
                case rel => exact ⟨p, t, y1, rfl, rfl, by omega, hp1, hp2, hR2, hP1⟩
            case rest =>
              clear hp1 hp2 ht hR2 hP1 hR1
              obtain ⟨p, t, y2, rfl, rfl, ht, hp1, hp2, hR2, hP2⟩ := hcut
              go_upto_region 15 with fail
              go_cut [68] from 19 (fun s68 wx => ∃ q : Bool, s68 = .bool q ∧ wx = wc)
              case first =>
                rcases ht with rfl | rfl <;> cases wb <;> cases wp <;>
                  (go_wp2_with fail
                   go_meet
                   exact ⟨_, rfl, rfl⟩)
              case rest =>
                obtain ⟨q, rfl, rfl⟩ := hcut
                go_upto_if 68 with fail
                go_cut [] from 19 (fun wx => ∃ y3, RowU w g off wx y3 ∧ PermIn a' b' y y3)
                case first =>
                  cases q
                  · go_wp2_with fail
                    go_meet
                    case rel => exact ⟨y2, hR2, hP2⟩
                  · have hc := upins2_calls cap hR2 (hP2.1.trans hyN) a' b' (by omega) hb' hsz
                    obtain ⟨s1, s2⟩ := Sort.partialInsertionSort_holds (lt := ltInt) swo_ltInt y2 a' b' (by omega) (by rw [hP2.1]; omega) (HB.out.perm (by omega) hP2)
                    generalize Sort.partialInsertionSort ltInt y2 a' b' = R at *
                    obtain ⟨y3, rb⟩ := R
                    simp only at hc s1 s2
                    cases rb
                    · go_wp2_with (go_at_call 241; refine hc.mono ?_; rintro e w4 ⟨rfl, hR4⟩)
                      go_meet
                      case rel => exact ⟨y3, hR4, permIn_trans _ _ _ _ _ hP2 s1⟩
                    · go_wp2_with (go_at_call 241; refine hc.mono ?_; rintro e w4 ⟨rfl, hR4⟩)
                      (try simp only [Exit.inBlock, Exit.then]); refine bodyPost_ret (results_none rfl _ _ _) rfl ?_
                      obtain ⟨k1, k2⟩ := HK.out _ (permIn_trans _ _ _ _ _ hP2 s1) (by first | exact s2 trivial | exact s2 rfl | exact s2)
                      exact ⟨rfl, _, hR4, k1, k2⟩
                case rest =>
                  obtain ⟨y3, hR3, hP3⟩ := hcut
                  have hy3N : y3.size = N := hP3.1.trans hyN
                  have hB3 := HB.out.perm (by omega) hP3
                  obtain ⟨G, hG⟩ := getG y3
                  have hcw := hR3.cells hy3N hG
                  have hfw := hR3.frz hy3N
                  have HG := Lib.hid hG
                  clear hG hR2 hP2 ht
                  go_upto_region 17 with fail
                  go_cut [87] from 19 (fun s87 wx => s87 = .bool (decide (0 < a') && !ltInt (G (a' - 1)) (G p)) ∧ RowU w g off wx y3)
                  case first =>
                    rcases Nat.eq_zero_or_pos a' with ha0 | ha0
                    · subst ha0
                      go_big_quiet (first | (go_at_call 242; refine Calls.quiet_of_same (uless_calls _ _ _)))
                      go_wp2_with fail
                      go_meet
                      case rel => exact ⟨by simp, hR3.drewN nq⟩
                    · have ha0z : (0 : Int) < (a' : Int) := by omega
                      go_big_quiet (first | (go_at_call 242; refine Calls.quiet_of_same (uless_calls _ _ _)))
                      go_wp2_with fail
                      go_meet
                      case rel => exact ⟨by simp [ha0], hR3.drewN nq⟩
                  case rest =>
                    obtain ⟨rfl, hR4⟩ := hcut
                    clear hcw hfw hR3
                    cases h87 : (decide (0 < a') && !ltInt (G (a' - 1)) (G p))
                    · obtain ⟨mid, ap, y4, hx⟩ : ∃ mid ap d4, Sort.partition ltInt y3 a' b' p = (mid, ap, d4) := ⟨_, _, _, rfl⟩
                      obtain ⟨r1, r2, r3, r4, r5, r6, r7⟩ := Sort.round_part swo_ltInt (Sort.partition_holds _) hp1 hp2 (by omega) hB3 hx
                      have hc := upart_calls cap hR4 hy3N a' b' p hp1 hp2 hb' hsz
                      rw [hx] at hc
                      simp only at hc
                      clear hx
                      go_upto_if 113 with (go_at_call 244; refine hc.mono ?_; rintro e w7 ⟨rfl, hR7⟩)
                      by_cases h4 : mid - a' < b' - mid
                      · have h4z : (mid : Int) - (a' : Int) < (b' : Int) - (mid : Int) := by omega
                        have hih := ih (w := w) a' mid l1 (by omega) hR7 (r3.trans hy3N) (by omega) (by omega) hl1 r4
                        go_wp2_with (go_at_call 216; refine hih.mono ?_; rintro e w8 ⟨rfl, y5, hR8, hP8, hS8⟩)
                        obtain ⟨k1, k2⟩ := r6 y5 hP8 hS8
                        go_roundg (b' - (mid + 1))
                        case measure => omega
                        case rel =>
                          refine ⟨mid + 1, b', l1, _, ap, y5, by go_num, rfl, rfl, rfl, rfl, by omega, by omega, Nat.le_refl _, by omega, hl1, hP8.1.trans (r3.trans hy3N), k1, hR8, fun z hz1 hz2 => ?_⟩
                          obtain ⟨q1, q2⟩ := k2 z hz1 hz2
                          exact HK.out z (permIn_trans _ _ _ _ _ hP3 q1) q2
                      · have h4z : ¬ ((mid : Int) - (a' : Int) < (b' : Int) - (mid : Int)) := by omega
                        have hih := ih (w := w) (mid + 1) b' l1 (by omega) hR7 (r3.trans hy3N) (by omega) (by omega) hl1 r5
                        go_wp2_with (go_at_call 216; refine hih.mono ?_; rintro e w8 ⟨rfl, y5, hR8, hP8, hS8⟩)
                        obtain ⟨k1, k2⟩ := r7 y5 hP8 hS8
                        go_roundg (mid - a')
                        case measure => omega
                        case rel =>
                          refine ⟨a', mid, l1, _, ap, y5, rfl, rfl, rfl, rfl, rfl, by omega, by omega, Nat.le_refl _, by omega, hl1, hP8.1.trans (r3.trans hy3N), k1, hR8, fun z hz1 hz2 => ?_⟩
                          obtain ⟨q1, q2⟩ := k2 z hz1 hz2
                          exact HK.out z (permIn_trans _ _ _ _ _ hP3 q1) q2
                    · rw [Bool.and_eq_true, decide_eq_true_eq, Bool.not_eq_true'] at h87
                      obtain ⟨ha0, hlg⟩ := h87
                      rw [HG.out, HG.out] at hlg
                      obtain ⟨mid, y4, hx⟩ : ∃ mid d4, Sort.partitionEqual ltInt y3 a' b' p = (mid, d4) := ⟨_, _, rfl⟩
                      obtain ⟨r1, r2, r3, r4, r5⟩ := Sort.round_eq swo_ltInt (Sort.partitionEqual_holds _) ha0 hp1 hp2 (by omega) hB3 hlg hx
                      have hc := upeq_calls cap hR4 hy3N a' b' p hp1 hp2 hb' hsz
                      rw [hx] at hc
                      simp only at hc
                      clear hx hlg
                      go_wp2_with (go_at_call 243; refine hc.mono ?_; rintro e w7 ⟨rfl, hR7⟩)
                      go_roundg (b' - mid)
                      case measure => omega
                      case rel =>
                        refine ⟨mid, b', l1, wb, wp, y4, rfl, rfl, rfl, rfl, rfl, by omega, by omega, Nat.le_refl _, by omega, hl1, r3.trans hy3N, r4, hR7, fun z hz1 hz2 => ?_⟩
                        obtain ⟨q1, q2⟩ := r5 z hz1 hz2
                        exact HK.out z (permIn_trans _ _ _ _ _ hP3 q1) q2
end Go.Proofs.YtanjgeacmpmjhaaGreatDoor
