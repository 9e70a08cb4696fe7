import Derived.Test.YtomhkflcimbbiaaURow
set_option linter.unusedVariables false
set_option linter.unusedSimpArgs false
set_option linter.unusedSectionVars false
namespace Go.Proofs.Ytomhkflcimbbiaa
open Go.RowKit
open Go.Sort (Holds putRow swp PermIn SortedIn ltInt holds_putRow holds_ahead putRow_self permIn_refl permIn_trans swp_permIn size_swp)

/-- A counter in a block of its own, beside the row. -/
structure CntU (w : World) (g off B : Nat) (W : World) (x : Array Int) (s : Nat) : Prop where
  holds : Holds eU W g off x
  box : Boxed W B 3 (.int .i64 s)
  grown : w.grownBy W (some B)
  ne : B ≠ g
  here : g < W.heap.size

section
variable {w W : World} {g off N B s : Nat} {x : Array Int}
theorem CntU.drewN (h : CntU w g off B W x s) (q : Nat) : CntU w g off B (W.drewN q) x s := ⟨h.holds, h.box, h.grown.trans ⟨rfl, rfl, rfl, Nat.le_refl _, fun _ _ _ => rfl⟩, h.ne, h.here⟩
theorem CntU.set (h : CntU w g off B W x s) (t : Nat) : CntU w g off B (W.setCell ⟨B, 0, none⟩ (.int .i64 t)) x t := by
  have e : (W.setCell ⟨B, 0, none⟩ (.int .i64 t)).heap[g]? = W.heap[g]? := Below.heap_setCell _ _ _ _ (fun e => h.ne e.symm)
  refine ⟨fun j hj => ⟨(World.cell?_of_block (w := W) e).trans (h.holds j hj).1, (World.frozen?_of_block (w := W) e).trans (h.holds j hj).2⟩, h.box.set _, h.grown.trans (grownBy_setCell' _ _ _), h.ne, ?_⟩
  have := (grownBy_setCell' W B (.int .i64 t)).size
  exact Nat.lt_of_lt_of_le h.here this
theorem CntU.cells (h : CntU w g off B W x s) (hN : x.size = N) {G : Nat → Int} (hG : ∀ t, G t = x[t]!) (t : Nat) (ht : t < N) : W.cell? ⟨g, off + t, none⟩ = some (.int .u32 (G t)) := by
  rw [hG]
  exact (h.holds t (by omega)).1

set_option maxHeartbeats 1000000 in
set_option maxRecDepth 100000 in
theorem uord_calls (cap : Nat) (h : CntU w g off B W x s) (hN : x.size = N) (a b : Nat) (ha : a < N) (hb : b < N) (hs : s ≤ 1000) (hsz : N < 4611686018427387904) :
    Calls Try.prog 77 #[.slice (some ⟨g, off, none⟩) N cap, .int .i64 a, .int .i64 b, .pointer (some ⟨B, 0, none⟩)] W fun e W' =>
      ∃ p q s' : Nat, e = .returned (.tuple #[.int .i64 p, .int .i64 q]) ∧ ((p = a ∧ q = b) ∨ (p = b ∧ q = a)) ∧ s' ≤ s + 1 ∧ CntU w g off B W' x s' := by
  obtain ⟨G, hG⟩ := getG x
  have hcw := h.cells hN hG
  have hc := h.box.cell
  have hf := h.box.frozen
  have H := Lib.hid h
  clear h hG
  go_enter Try.func77, Try.ntmps77
  go_wp2
  go_quiet (first | (go_at_call 53; refine Calls.quiet_of_same (uless_calls _ _ _)))
  go_wp2
  · go_ret2
    refine ⟨b, a, s + 1, rfl, .inr ⟨rfl, rfl⟩, Nat.le_refl _, ?_⟩
    exact (H.out.drewN nq).set (s + 1)
  · go_ret2
    exact ⟨a, b, s, rfl, .inl ⟨rfl, rfl⟩, by omega, H.out.drewN nq⟩

set_option maxHeartbeats 1000000 in
set_option maxRecDepth 100000 in
theorem umed_calls (cap : Nat) (h : CntU w g off B W x s) (hN : x.size = N) (a b c : Nat) (ha : a < N) (hb : b < N) (hc : c < N) (hs : s ≤ 900) (hsz : N < 4611686018427387904) :
    Calls Try.prog 72 #[.slice (some ⟨g, off, none⟩) N cap, .int .i64 a, .int .i64 b, .int .i64 c, .pointer (some ⟨B, 0, none⟩)] W fun e W' =>
      ∃ p s' : Nat, e = .returned (.int .i64 p) ∧ (p = a ∨ p = b ∨ p = c) ∧ s' ≤ s + 3 ∧ CntU w g off B W' x s' := by
  go_enter Try.func72, Try.ntmps72
  go_wp2_with fail
  go_at_call 77
  refine (uord_calls cap h hN a b ha hb (by omega) hsz).mono ?_
  rintro e w1 ⟨p1, q1, s1, rfl, h1, hs1, hC1⟩
  clear h
  go_wp2_with fail
  go_at_call 77
  refine (uord_calls cap hC1 hN q1 c (by omega) hc (by omega) hsz).mono ?_
  rintro e w2 ⟨p2, q2, s2, rfl, h2, hs2, hC2⟩
  clear hC1
  go_wp2_with fail
  go_at_call 77
  refine (uord_calls cap hC2 hN p1 p2 (by omega) (by omega) (by omega) hsz).mono ?_
  rintro e w3 ⟨p3, q3, s3, rfl, h3, hs3, hC3⟩
  clear hC2
  go_wp2
  go_ret
  exact ⟨q3, s3, rfl, by omega, by omega, hC3⟩

set_option maxHeartbeats 1000000 in
set_option maxRecDepth 100000 in
theorem umedA_calls (cap : Nat) (h : CntU w g off B W x s) (hN : x.size = N) (a : Nat) (ha : 1 ≤ a) (hb : a + 1 < N) (hs : s ≤ 900) (hsz : N < 4611686018427387904) :
    Calls Try.prog 71 #[.slice (some ⟨g, off, none⟩) N cap, .int .i64 a, .pointer (some ⟨B, 0, none⟩)] W fun e W' =>
      ∃ p s' : Nat, e = .returned (.int .i64 p) ∧ (p = a - 1 ∨ p = a ∨ p = a + 1) ∧ s' ≤ s + 3 ∧ CntU w g off B W' x s' := by
  have hc := umed_calls cap h hN (a - 1) a (a + 1) (by omega) (by omega) (by omega) hs hsz
  have e1 : ((a - 1 : Nat) : Int) = (a : Int) - 1 := by omega
  have e2 : ((a + 1 : Nat) : Int) = (a : Int) + 1 := by omega
  rw [e1, e2] at hc
  clear e1 e2 h
  go_enter Try.func71, Try.ntmps71
  go_wp2_with (go_at_call 72; refine hc.mono ?_; rintro e w1 ⟨p, s1, rfl, hp, hs1, hC⟩)
  go_ret
  exact ⟨p, s1, rfl, hp, hs1, hC⟩

theorem cnt_start (h : RowU w g off W x) : CntU (W.alloc (.cells #[.int .i64 0] 3)) g off W.heap.size (W.alloc (.cells #[.int .i64 0] 3)) x 0 := by
  have h2 := h.below (W' := W.alloc (.cells #[.int .i64 0] 3)) ((Below.refl _ W).alloc (Nat.le_refl _) _)
  have := h.lt
  exact ⟨h2.holds, Boxed.new _ _ _, .refl _ _, by omega, h2.lt⟩
theorem cnt_end {y : Array Int} {W' : World} (h : RowU w g off W x) (hc : CntU (W.alloc (.cells #[.int .i64 0] 3)) g off W.heap.size W' y s) : RowU w g off W' x := by
  refine h.below ?_
  exact ((Below.refl _ W).alloc (Nat.le_refl _) _).grown hc.grown (by simp) (fun k e => by cases e; exact Nat.le_refl _)

set_option maxHeartbeats 2000000 in
set_option maxRecDepth 100000 in
theorem upiv_calls (cap : Nat) (h : RowU w g off W x) (hN : x.size = N) (a b : Nat) (hab : a + 8 ≤ b) (hb : b ≤ N) (hsz : N < 4611686018427387904) :
    Calls Try.prog 50 #[.slice (some ⟨g, off, none⟩) N cap, .int .i64 a, .int .i64 b] W fun e W' =>
      ∃ (p : Nat) (t : Int), e = .returned (.tuple #[.int .i64 p, .int .i64 t]) ∧ a ≤ p ∧ p < b ∧ (t = 0 ∨ t = 1 ∨ t = 2) ∧ RowU w g off W' x := by
  have hC := cnt_start h
  have H := Lib.hid h
  clear h
  obtain ⟨I, hI⟩ : ∃ I : Nat, I = a + (b - a) / 4 := ⟨_, rfl⟩
  obtain ⟨J, hJ⟩ : ∃ J : Nat, J = a + (b - a) / 4 * 2 := ⟨_, rfl⟩
  obtain ⟨K, hK⟩ : ∃ K : Nat, K = a + (b - a) / 4 * 3 := ⟨_, rfl⟩
  have eI : ((a : Int) + ((b : Int) - (a : Int)) / 4) = (I : Int) := by omega
  have eJ : ((a : Int) + ((b : Int) - (a : Int)) / 4 * 2) = (J : Int) := by omega
  have eK : ((a : Int) + ((b : Int) - (a : Int)) / 4 * 3) = (K : Int) := by omega
  have hI2 : a + 2 ≤ I ∧ I + 2 ≤ J ∧ J + 2 ≤ K ∧ K + 2 ≤ b := by omega
  clear hI hJ hK
  by_cases h50 : b - a ≥ 50
  · go_enter Try.func50, Try.ntmps50
    go_wp2_with fail
    go_at_call 71
    refine (umedA_calls cap hC hN I (by omega) (by omega) (by omega) hsz).mono ?_
    rintro e w1 ⟨p1, s1, rfl, h1, hs1, hC1⟩
    clear hC
    go_wp2_with fail
    go_at_call 71
    refine (umedA_calls cap hC1 hN J (by omega) (by omega) (by omega) hsz).mono ?_
    rintro e w2 ⟨p2, s2, rfl, h2, hs2, hC2⟩
    clear hC1
    go_wp2_with fail
    go_at_call 71
    refine (umedA_calls cap hC2 hN K (by omega) (by omega) (by omega) hsz).mono ?_
    rintro e w3 ⟨p3, s3, rfl, h3, hs3, hC3⟩
    clear hC2
    go_wp2_with fail
    go_at_call 72
    refine (umed_calls cap hC3 hN p1 p2 p3 (by omega) (by omega) (by omega) (by omega) hsz).mono ?_
    rintro e w4 ⟨p4, s4, rfl, h4, hs4, hC4⟩
    clear hC3
    have hcell := hC4.box.cell
    have HR := Lib.hid (cnt_end H.out hC4)
    clear hC4
    go_wp2
    all_goals
      go_ret2
      exact ⟨p4, _, rfl, by omega, by omega, by simp, HR.out⟩
  · go_enter Try.func50, Try.ntmps50
    go_wp2_with fail
    go_at_call 72
    refine (umed_calls cap hC hN I J K (by omega) (by omega) (by omega) (by omega) hsz).mono ?_
    rintro e w4 ⟨p4, s4, rfl, h4, hs4, hC4⟩
    have hcell := hC4.box.cell
    have HR := Lib.hid (cnt_end H.out hC4)
    clear hC4 hC
    go_wp2
    all_goals
      go_ret2
      exact ⟨p4, _, rfl, by omega, by omega, by simp, HR.out⟩
end
end Go.Proofs.Ytomhkflcimbbiaa
