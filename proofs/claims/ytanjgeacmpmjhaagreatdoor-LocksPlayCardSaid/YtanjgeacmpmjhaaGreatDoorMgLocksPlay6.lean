import Derived.Test.YtanjgeacmpmjhaaGreatDoorRowLaws
import Derived.Test.YtanjgeacmpmjhaaGreatDoorMgLocksPlay2
import Derived.Sort.LotD3
import Derived.RangeFuncBox
import Derived.RangeFuncNested
set_option linter.unusedVariables false
set_option linter.unusedSimpArgs false
namespace Go.Proofs.YtanjgeacmpmjhaaGreatDoor
open Go.RowKit

theorem Own.some_block {α : Type} {enc : α → List Value} {k : Nat} {E : TypeId} {base : Nat} {w : World} {v : Value} {xs : List α} (h : Own enc k E base w v xs) (hx : 0 < xs.length) :
    ∃ g cap cur, v = .slice (some ⟨g, 0, none⟩) xs.length cap ∧ base ≤ g ∧ w.heap[g]? = some (.cells cur E (0, 0)) ∧ xs.length ≤ cap ∧ cap ≤ maxLen ∧ cur.size = cap * k ∧ cur.toList.take (xs.length * k) = xs.flatMap enc := by
  rcases h.2 with ⟨rfl, h0⟩ | h
  · omega
  · exact h

/-- What lies at the row's head, where a row of these lies. -/
theorem Own.lies {α : Type} {enc : α → List Value} {k : Nat} {E : TypeId} {base : Nat} {w : World} {v : Value} {xs : List α} (h : Own enc k E base w v xs) (hk : ∀ x, (enc x).length = k) (i : Nat) (x : α) (hx : xs[i]? = some x) :
    ∃ g cap cur, v = .slice (some ⟨g, 0, none⟩) xs.length cap ∧ xs.length ≤ cap ∧ cap ≤ maxLen ∧ w.heap[g]? = some (.cells cur E (0, 0)) ∧ ∀ j u, (enc x)[j]? = some u → cur[i * k + j]? = some u := by
  obtain ⟨g, cap, cur, hv, _, hg, hlc, hcm, hsz, ht⟩ := h.some_block (Nat.lt_of_le_of_lt (Nat.zero_le _) (List.getElem?_eq_some_iff.1 hx).1)
  refine ⟨g, cap, cur, hv, hlc, hcm, hg, fun j u hu => ?_⟩
  have := flat_get hk xs i x j u hx hu
  rw [← ht, List.getElem?_take] at this
  split at this
  · simpa using this
  · cases this

theorem flat_set {α : Type} {enc : α → List Value} {k : Nat} (hk : ∀ x, (enc x).length = k) : ∀ (ys : List α) (i : Nat) (y y' : α) (j : Nat) (u : Value), ys[i]? = some y → enc y' = (enc y).set j u → j < k → (ys.flatMap enc).set (i * k + j) u = (ys.set i y').flatMap enc
  | x :: ys, 0, y, y', j, u, hi, he, hj => by
    simp only [List.getElem?_cons_zero, Option.some.injEq] at hi
    subst hi
    rw [List.flatMap_cons, List.set_cons_zero, List.flatMap_cons, he, Nat.zero_mul, Nat.zero_add, List.set_append_left _ _ (by rw [hk]; exact hj)]
  | x :: ys, i + 1, y, y', j, u, hi, he, hj => by
    simp only [List.getElem?_cons_succ] at hi
    rw [List.flatMap_cons, List.set_cons_succ, List.flatMap_cons, List.set_append_right _ _ (by rw [hk, Nat.add_mul]; omega), hk, show (i + 1) * k + j - k = i * k + j by rw [Nat.add_mul]; omega, flat_set hk ys i y y' j u hi he hj]

/-- A row of one's own, one cell of which is written. -/
theorem Own.cell {α : Type} {enc : α → List Value} {k : Nat} {E : TypeId} {base : Nat} {w : World} {g n cap : Nat} {ys : List α} (h : Own enc k E base w (.slice (some ⟨g, 0, none⟩) n cap) ys) (hk : ∀ x, (enc x).length = k) (i : Nat) (y y' : α) (j : Nat) (u : Value)
    (hy : ys[i]? = some y) (he : enc y' = (enc y).set j u) (hj : j < k) : Own enc k E base (w.setCell ⟨g, i * k + j, none⟩ u) (.slice (some ⟨g, 0, none⟩) n cap) (ys.set i y') ∧ ∀ b, b ≠ g → (w.setCell ⟨g, i * k + j, none⟩ u).heap[b]? = w.heap[b]? := by
  have hi := (List.getElem?_eq_some_iff.1 hy).1
  obtain ⟨g', cap', cur, hv, hb, hg, hlc, hcm, hsz, ht⟩ := h.some_block (by omega)
  injection hv with h1 h2 h3
  injection h1 with h1
  injection h1 with h1
  subst h1 h2 h3
  rw [setCell_eq_setRow w g (i * k + j) cur E (0, 0) u hg]
  refine ⟨⟨flat_length hk _, .inr ⟨g, cap, cur.setIfInBounds (i * k + j) u, by rw [List.length_set], hb, setRow_heap _ _ _ _ _ _ hg, by rw [List.length_set]; exact hlc, hcm, by simpa using hsz, ?_⟩⟩, fun b hb => setRow_other _ _ _ _ hb⟩
  rw [Array.toList_setIfInBounds, List.take_set, List.length_set, ht, flat_set hk ys i y y' j u hy he hj]

theorem ownsRow_lower {W : World} {base base' : Nat} {e : TypeId} {size : Nat} {v : Value} {n : Nat} {xs : List Value} (h : W.ownsRow base e size v n xs) (hb : base' ≤ base) : W.ownsRow base' e size v n xs := by
  refine ⟨h.1, ?_⟩
  rcases h.2 with h | ⟨g, cap, cur, h1, h2, h3⟩
  · exact .inl h
  · exact .inr ⟨g, cap, cur, h1, Nat.le_trans hb h2, h3⟩

theorem Own.lower {α : Type} {enc : α → List Value} {k : Nat} {E : TypeId} {base base' : Nat} {w : World} {v : Value} {xs : List α} (h : Own enc k E base w v xs) (hb : base' ≤ base) : Own enc k E base' w v xs := ownsRow_lower h hb

end Go.Proofs.YtanjgeacmpmjhaaGreatDoor

set_option linter.unusedVariables false
set_option linter.unusedSimpArgs false
set_option linter.unusedSectionVars false
namespace Go.Proofs.YtanjgeacmpmjhaaGreatDoor
open Go.RowKit
open Go.Sort (Holds putRow swp PermIn SortedIn ltInt mapBlock onCells putCells holds_putRow holds_ahead putRow_self permIn_refl permIn_trans swp_permIn size_swp)

/-- The row at block g, from off on, holds x; since w nothing else has turned that lay there. -/
structure RowU (w : World) (g off : Nat) (W : World) (x : Array Int) : Prop where
  holds : Holds eU W g off x
  grown : w.grownBy W (some g)
  shape : ∀ cur E fr, w.heap[g]? = some (.cells cur E fr) → ∃ cur', W.heap[g]? = some (.cells cur' E fr) ∧ cur'.size = cur.size
  here : g < w.heap.size

section
variable {w W : World} {g off N : Nat} {x y : Array Int}
theorem RowU.refl (h : Holds eU w g off x) (hg : g < w.heap.size) : RowU w g off w x := ⟨h, .refl _ _, fun cur E fr e => ⟨cur, e, rfl⟩, hg⟩
theorem RowU.lt (h : RowU w g off W x) : g < W.heap.size := Nat.lt_of_lt_of_le h.here h.grown.size
theorem grown_putRow (W : World) (n : Nat) (y : Array Int) : W.grownBy (putRow eU (Sort.ahead W n) g off y) (some g) := by
  refine ⟨rfl, rfl, rfl, by simp [putRow, mapBlock, Sort.ahead], fun k hk hne => ?_⟩
  have : g ≠ k := fun e => hne (by rw [e])
  simp [putRow, mapBlock, Sort.ahead, Array.getElem?_modify, this]
theorem RowU.put (h : RowU w g off W x) (n : Nat) (y : Array Int) (hy : y.size = x.size) : RowU w g off (putRow eU (Sort.ahead W n) g off y) y := by
  refine ⟨holds_putRow _ _ _ _ x y (holds_ahead _ _ _ _ _ _ h.holds) hy, h.grown.trans (grown_putRow W n y), fun cur E fr e => ?_, h.here⟩
  obtain ⟨c', e', hs⟩ := h.shape cur E fr e
  exact ⟨putCells eU off y c', by simp [putRow, mapBlock, Sort.ahead, Array.getElem?_modify, e', onCells], by simpa [putCells] using hs⟩
theorem RowU.drewN (h : RowU w g off W x) (q : Nat) : RowU w g off (W.drewN q) x := by
  have := h.put q x rfl
  rw [putRow_self _ _ _ _ _ (holds_ahead _ _ _ _ _ _ h.holds)] at this
  exact this
theorem RowU.drew (h : RowU w g off W x) : RowU w g off W.drew x := h.drewN 1
theorem RowU.swap (h : RowU w g off W x) {G : Nat → Int} (hG : ∀ t, G t = x[t]!) {j k : Nat} (hj : j < x.size) (hk : k < x.size) (q : Nat) :
    RowU w g off (((W.drewN q).setCell ⟨g, off + j, none⟩ (.int .u32 (G k))).setCell ⟨g, off + k, none⟩ (.int .u32 (G j))) (swp x j k) := by
  have e := swap_worldA eU W 0 q g off x j k hj hk
  rw [Sort.ahead_zero, putRow_self _ _ _ _ _ h.holds] at e
  rw [hG, hG]
  have h2 := h.put (0 + q) (swp x j k) (size_swp _ _ _)
  rw [← e] at h2
  exact h2
theorem RowU.below {W' : World} (h : RowU w g off W x) (hb : Below W.heap.size W W') : RowU w g off W' x := by
  have hl := h.lt
  refine ⟨fun j hj => ⟨(hb.cell hl).trans (h.holds j hj).1, (hb.frozen (p := ⟨g, off + j, none⟩) hl).trans (h.holds j hj).2⟩, h.grown.trans ⟨hb.os, hb.tape, hb.output, hb.size, fun i hi _ => hb.block i hi⟩, fun cur E fr e => ?_, h.here⟩
  obtain ⟨c', e', hs⟩ := h.shape cur E fr e
  exact ⟨c', (hb.block g hl).trans e', hs⟩
theorem RowU.cells (h : RowU w g off W x) (hN : x.size = N) {G : Nat → Int} (hG : ∀ t, G t = x[t]!) (t : Nat) (ht : t < N) : W.cell? ⟨g, off + t, none⟩ = some (.int .u32 (G t)) := by
  rw [hG]
  exact (h.holds t (by omega)).1
theorem RowU.frz (h : RowU w g off W x) (hN : x.size = N) (t : Nat) (ht : t < N) : W.frozen? ⟨g, off + t, none⟩ = false := (h.holds t (by omega)).2
end
theorem getG (x : Array Int) : ∃ G : Nat → Int, ∀ t, G t = x[t]! := ⟨fun t => x[t]!, fun _ => rfl⟩

section
variable {w W : World} {g off N : Nat} {x : Array Int} (cap : Nat)
set_option maxHeartbeats 1000000 in
set_option maxRecDepth 100000 in
theorem urev_calls (h : RowU w g off W x) (hN : x.size = N) (a b : Nat) (hab : a ≤ b) (hb : b ≤ N) (hsz : N < 4611686018427387904) :
    Calls Tryz.prog 240 #[.slice (some ⟨g, off, none⟩) N cap, .int .i64 a, .int .i64 b] W fun e W' => e = .returned (.tuple #[]) ∧ ∃ y, RowU w g off W' y ∧ PermIn a b x y := by
  go_enter Tryz.func240, Tryz.ntmps240
  go_wp2
  go_loopw [6, 7] (fun vi vj wr => ∃ (i : Nat) (jz : Int) (y : Array Int), vi = .int .i64 i ∧ vj = .int .i64 jz ∧ a ≤ i ∧ i ≤ b ∧ jz < b ∧ -1 ≤ jz ∧ RowU w g off wr y ∧ PermIn a b x y) (fun vi _ _ => b - (intOf vi).toNat)
  case atStart => exact ⟨a, (b : Int) - 1, x, rfl, by go_num, Nat.le_refl _, hab, by omega, by omega, h, permIn_refl _ _ _⟩
  case round =>
    clear h
    obtain ⟨i, jz, y, rfl, rfl, hai, hib, hjb, hj1, hR, hP⟩ := hrel
    have hyN : y.size = N := hP.1.trans hN
    by_cases hlt : (i : Int) < jz
    · obtain ⟨j, rfl⟩ : ∃ j : Nat, jz = j := ⟨jz.toNat, by omega⟩
      obtain ⟨G, hG⟩ := getG y
      have hcw := hR.cells hyN hG
      have hfw := hR.frz hyN
      have HR := Lib.hid hR
      have HG := Lib.hid hG
      have HP := Lib.hid hP
      clear hR hG hP
      go_wp2
      go_region
      all_goals go_wp2
      go_roundw
      case rel =>
        exact ⟨i + 1, (j : Int) - 1, swp y i j, by go_num, by go_num, by omega, by omega, by omega, by omega, HR.out.swap HG.out (by omega) (by omega) 1, permIn_trans _ _ _ _ _ HP.out (swp_permIn y a b i j (by omega) (by omega) (by omega) (by omega) (by omega))⟩
      case measure => simp [intOf]; omega
    · go_wp2
      go_end0
      exact ⟨rfl, y, hR, hP⟩
end
end Go.Proofs.YtanjgeacmpmjhaaGreatDoor

set_option linter.unusedVariables false
set_option linter.unusedSimpArgs false
set_option linter.unusedSectionVars false
namespace Go.Proofs.YtanjgeacmpmjhaaGreatDoor
open Go.RowKit
open Go.Sort (Holds putRow swp PermIn SortedIn ltInt holds_putRow holds_ahead putRow_self permIn_refl permIn_trans swp_permIn size_swp)

/-- A counter in a block of its own, beside the row. -/
structure CntU (w : World) (g off B : Nat) (W : World) (x : Array Int) (s : Nat) : Prop where
  holds : Holds eU W g off x
  box : Boxed W B 3 (.int .i64 s)
  grown : w.grownBy W (some B)
  ne : B ≠ g
  here : g < W.heap.size

section
variable {w W : World} {g off N B s : Nat} {x : Array Int}
theorem CntU.drewN (h : CntU w g off B W x s) (q : Nat) : CntU w g off B (W.drewN q) x s := ⟨h.holds, h.box, h.grown.trans ⟨rfl, rfl, rfl, Nat.le_refl _, fun _ _ _ => rfl⟩, h.ne, h.here⟩
theorem CntU.set (h : CntU w g off B W x s) (t : Nat) : CntU w g off B (W.setCell ⟨B, 0, none⟩ (.int .i64 t)) x t := by
  have e : (W.setCell ⟨B, 0, none⟩ (.int .i64 t)).heap[g]? = W.heap[g]? := Below.heap_setCell _ _ _ _ (fun e => h.ne e.symm)
  refine ⟨fun j hj => ⟨(World.cell?_of_block (w := W) e).trans (h.holds j hj).1, (World.frozen?_of_block (w := W) e).trans (h.holds j hj).2⟩, h.box.set _, h.grown.trans (grownBy_setCell' _ _ _), h.ne, ?_⟩
  have := (grownBy_setCell' W B (.int .i64 t)).size
  exact Nat.lt_of_lt_of_le h.here this
theorem CntU.cells (h : CntU w g off B W x s) (hN : x.size = N) {G : Nat → Int} (hG : ∀ t, G t = x[t]!) (t : Nat) (ht : t < N) : W.cell? ⟨g, off + t, none⟩ = some (.int .u32 (G t)) := by
  rw [hG]
  exact (h.holds t (by omega)).1

set_option maxHeartbeats 1000000 in
set_option maxRecDepth 100000 in
theorem uord_calls (cap : Nat) (h : CntU w g off B W x s) (hN : x.size = N) (a b : Nat) (ha : a < N) (hb : b < N) (hs : s ≤ 1000) (hsz : N < 4611686018427387904) :
    Calls Tryz.prog 275 #[.slice (some ⟨g, off, none⟩) N cap, .int .i64 a, .int .i64 b, .pointer (some ⟨B, 0, none⟩)] W fun e W' =>
      ∃ p q s' : Nat, e = .returned (.tuple #[.int .i64 p, .int .i64 q]) ∧ ((p = a ∧ q = b) ∨ (p = b ∧ q = a)) ∧ s' ≤ s + 1 ∧ CntU w g off B W' x s' := by
  obtain ⟨G, hG⟩ := getG x
  have hcw := h.cells hN hG
  have hc := h.box.cell
  have hf := h.box.frozen
  have H := Lib.hid h
  clear h hG
  go_enter Tryz.func275, Tryz.ntmps275
  go_wp2
  go_quiet (first | (go_at_call 242; refine Calls.quiet_of_same (uless_calls _ _ _)))
  go_wp2
  · go_ret2
    refine ⟨b, a, s + 1, rfl, .inr ⟨rfl, rfl⟩, Nat.le_refl _, ?_⟩
    exact (H.out.drewN nq).set (s + 1)
  · go_ret2
    exact ⟨a, b, s, rfl, .inl ⟨rfl, rfl⟩, by omega, H.out.drewN nq⟩

set_option maxHeartbeats 1000000 in
set_option maxRecDepth 100000 in
theorem umed_calls (cap : Nat) (h : CntU w g off B W x s) (hN : x.size = N) (a b c : Nat) (ha : a < N) (hb : b < N) (hc : c < N) (hs : s ≤ 900) (hsz : N < 4611686018427387904) :
    Calls Tryz.prog 258 #[.slice (some ⟨g, off, none⟩) N cap, .int .i64 a, .int .i64 b, .int .i64 c, .pointer (some ⟨B, 0, none⟩)] W fun e W' =>
      ∃ p s' : Nat, e = .returned (.int .i64 p) ∧ (p = a ∨ p = b ∨ p = c) ∧ s' ≤ s + 3 ∧ CntU w g off B W' x s' := by
  go_enter Tryz.func258, Tryz.ntmps258
  go_wp2_with fail
  go_at_call 275
  refine (uord_calls cap h hN a b ha hb (by omega) hsz).mono ?_
  rintro e w1 ⟨p1, q1, s1, rfl, h1, hs1, hC1⟩
  clear h
  go_wp2_with fail
  go_at_call 275
  refine (uord_calls cap hC1 hN q1 c (by omega) hc (by omega) hsz).mono ?_
  rintro e w2 ⟨p2, q2, s2, rfl, h2, hs2, hC2⟩
  clear hC1
  go_wp2_with fail
  go_at_call 275
  refine (uord_calls cap hC2 hN p1 p2 (by omega) (by omega) (by omega) hsz).mono ?_
  rintro e w3 ⟨p3, q3, s3, rfl, h3, hs3, hC3⟩
  clear hC2
  go_wp2
  go_ret
  exact ⟨q3, s3, rfl, by omega, by omega, hC3⟩

set_option maxHeartbeats 1000000 in
set_option maxRecDepth 100000 in
theorem umedA_calls (cap : Nat) (h : CntU w g off B W x s) (hN : x.size = N) (a : Nat) (ha : 1 ≤ a) (hb : a + 1 < N) (hs : s ≤ 900) (hsz : N < 4611686018427387904) :
    Calls Tryz.prog 257 #[.slice (some ⟨g, off, none⟩) N cap, .int .i64 a, .pointer (some ⟨B, 0, none⟩)] W fun e W' =>
      ∃ p s' : Nat, e = .returned (.int .i64 p) ∧ (p = a - 1 ∨ p = a ∨ p = a + 1) ∧ s' ≤ s + 3 ∧ CntU w g off B W' x s' := by
  have hc := umed_calls cap h hN (a - 1) a (a + 1) (by omega) (by omega) (by omega) hs hsz
  have e1 : ((a - 1 : Nat) : Int) = (a : Int) - 1 := by omega
  have e2 : ((a + 1 : Nat) : Int) = (a : Int) + 1 := by omega
  rw [e1, e2] at hc
  clear e1 e2 h
  go_enter Tryz.func257, Tryz.ntmps257
  go_wp2_with (go_at_call 258; refine hc.mono ?_; rintro e w1 ⟨p, s1, rfl, hp, hs1, hC⟩)
  go_ret
  exact ⟨p, s1, rfl, hp, hs1, hC⟩

theorem cnt_start (h : RowU w g off W x) : CntU (W.alloc (.cells #[.int .i64 0] 3)) g off W.heap.size (W.alloc (.cells #[.int .i64 0] 3)) x 0 := by
  have h2 := h.below (W' := W.alloc (.cells #[.int .i64 0] 3)) ((Below.refl _ W).alloc (Nat.le_refl _) _)
  have := h.lt
  exact ⟨h2.holds, Boxed.new _ _ _, .refl _ _, by omega, h2.lt⟩
theorem cnt_end {y : Array Int} {W' : World} (h : RowU w g off W x) (hc : CntU (W.alloc (.cells #[.int .i64 0] 3)) g off W.heap.size W' y s) : RowU w g off W' x := by
  refine h.below ?_
  exact ((Below.refl _ W).alloc (Nat.le_refl _) _).grown hc.grown (by simp) (fun k e => by cases e; exact Nat.le_refl _)

set_option maxHeartbeats 2000000 in
set_option maxRecDepth 100000 in
theorem upiv_calls (cap : Nat) (h : RowU w g off W x) (hN : x.size = N) (a b : Nat) (hab : a + 8 ≤ b) (hb : b ≤ N) (hsz : N < 4611686018427387904) :
    Calls Tryz.prog 239 #[.slice (some ⟨g, off, none⟩) N cap, .int .i64 a, .int .i64 b] W fun e W' =>
      ∃ (p : Nat) (t : Int), e = .returned (.tuple #[.int .i64 p, .int .i64 t]) ∧ a ≤ p ∧ p < b ∧ (t = 0 ∨ t = 1 ∨ t = 2) ∧ RowU w g off W' x := by
  have hC := cnt_start h
  have H := Lib.hid h
  clear h
  obtain ⟨I, hI⟩ : ∃ I : Nat, I = a + (b - a) / 4 := ⟨_, rfl⟩
  obtain ⟨J, hJ⟩ : ∃ J : Nat, J = a + (b - a) / 4 * 2 := ⟨_, rfl⟩
  obtain ⟨K, hK⟩ : ∃ K : Nat, K = a + (b - a) / 4 * 3 := ⟨_, rfl⟩
  have eI : ((a : Int) + ((b : Int) - (a : Int)) / 4) = (I : Int) := by omega
  have eJ : ((a : Int) + ((b : Int) - (a : Int)) / 4 * 2) = (J : Int) := by omega
  have eK : ((a : Int) + ((b : Int) - (a : Int)) / 4 * 3) = (K : Int) := by omega
  have hI2 : a + 2 ≤ I ∧ I + 2 ≤ J ∧ J + 2 ≤ K ∧ K + 2 ≤ b := by omega
  clear hI hJ hK
  by_cases h50 : b - a ≥ 50
  · go_enter Tryz.func239, Tryz.ntmps239
    go_wp2_with fail
    go_at_call 257
    refine (umedA_calls cap hC hN I (by omega) (by omega) (by omega) hsz).mono ?_
    rintro e w1 ⟨p1, s1, rfl, h1, hs1, hC1⟩
    clear hC
    go_wp2_with fail
    go_at_call 257
    refine (umedA_calls cap hC1 hN J (by omega) (by omega) (by omega) hsz).mono ?_
    rintro e w2 ⟨p2, s2, rfl, h2, hs2, hC2⟩
    clear hC1
    go_wp2_with fail
    go_at_call 257
    refine (umedA_calls cap hC2 hN K (by omega) (by omega) (by omega) hsz).mono ?_
    rintro e w3 ⟨p3, s3, rfl, h3, hs3, hC3⟩
    clear hC2
    go_wp2_with fail
    go_at_call 258
    refine (umed_calls cap hC3 hN p1 p2 p3 (by omega) (by omega) (by omega) (by omega) hsz).mono ?_
    rintro e w4 ⟨p4, s4, rfl, h4, hs4, hC4⟩
    clear hC3
    have hcell := hC4.box.cell
    have HR := Lib.hid (cnt_end H.out hC4)
    clear hC4
    go_wp2
    all_goals
      go_ret2
      exact ⟨p4, _, rfl, by omega, by omega, by simp, HR.out⟩
  · go_enter Tryz.func239, Tryz.ntmps239
    go_wp2_with fail
    go_at_call 258
    refine (umed_calls cap hC hN I J K (by omega) (by omega) (by omega) (by omega) hsz).mono ?_
    rintro e w4 ⟨p4, s4, rfl, h4, hs4, hC4⟩
    have hcell := hC4.box.cell
    have HR := Lib.hid (cnt_end H.out hC4)
    clear hC4 hC
    go_wp2
    all_goals
      go_ret2
      exact ⟨p4, _, rfl, by omega, by omega, by simp, HR.out⟩
end
end Go.Proofs.YtanjgeacmpmjhaaGreatDoor
