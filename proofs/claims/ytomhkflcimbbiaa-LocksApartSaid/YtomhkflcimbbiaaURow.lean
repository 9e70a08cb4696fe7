import Derived.Test.YtomhkflcimbbiaaUIns
import Derived.Test.YtomhkflcimbbiaaOwn
import Derived.Sort.LotD3
import Derived.RangeFuncBox
import Derived.RangeFuncNested
set_option linter.unusedVariables false
set_option linter.unusedSimpArgs false
set_option linter.unusedSectionVars false
namespace Go.Proofs.Ytomhkflcimbbiaa
open Go.RowKit
open Go.Sort (Holds putRow swp PermIn SortedIn ltInt mapBlock onCells putCells holds_putRow holds_ahead putRow_self permIn_refl permIn_trans swp_permIn size_swp)

/-- The row at block g, from off on, holds x; since w nothing else has turned that lay there. -/
structure RowU (w : World) (g off : Nat) (W : World) (x : Array Int) : Prop where
  holds : Holds eU W g off x
  grown : w.grownBy W (some g)
  shape : ∀ cur E fr, w.heap[g]? = some (.cells cur E fr) → ∃ cur', W.heap[g]? = some (.cells cur' E fr) ∧ cur'.size = cur.size
  here : g < w.heap.size

section
variable {w W : World} {g off N : Nat} {x y : Array Int}
theorem RowU.refl (h : Holds eU w g off x) (hg : g < w.heap.size) : RowU w g off w x := ⟨h, .refl _ _, fun cur E fr e => ⟨cur, e, rfl⟩, hg⟩
theorem RowU.lt (h : RowU w g off W x) : g < W.heap.size := Nat.lt_of_lt_of_le h.here h.grown.size
theorem grown_putRow (W : World) (n : Nat) (y : Array Int) : W.grownBy (putRow eU (Sort.ahead W n) g off y) (some g) := by
  refine ⟨rfl, rfl, rfl, by simp [putRow, mapBlock, Sort.ahead], fun k hk hne => ?_⟩
  have : g ≠ k := fun e => hne (by rw [e])
  simp [putRow, mapBlock, Sort.ahead, Array.getElem?_modify, this]
theorem RowU.put (h : RowU w g off W x) (n : Nat) (y : Array Int) (hy : y.size = x.size) : RowU w g off (putRow eU (Sort.ahead W n) g off y) y := by
  refine ⟨holds_putRow _ _ _ _ x y (holds_ahead _ _ _ _ _ _ h.holds) hy, h.grown.trans (grown_putRow W n y), fun cur E fr e => ?_, h.here⟩
  obtain ⟨c', e', hs⟩ := h.shape cur E fr e
  exact ⟨putCells eU off y c', by simp [putRow, mapBlock, Sort.ahead, Array.getElem?_modify, e', onCells], by simpa [putCells] using hs⟩
theorem RowU.drewN (h : RowU w g off W x) (q : Nat) : RowU w g off (W.drewN q) x := by
  have := h.put q x rfl
  rw [putRow_self _ _ _ _ _ (holds_ahead _ _ _ _ _ _ h.holds)] at this
  exact this
theorem RowU.drew (h : RowU w g off W x) : RowU w g off W.drew x := h.drewN 1
theorem RowU.swap (h : RowU w g off W x) {G : Nat → Int} (hG : ∀ t, G t = x[t]!) {j k : Nat} (hj : j < x.size) (hk : k < x.size) (q : Nat) :
    RowU w g off (((W.drewN q).setCell ⟨g, off + j, none⟩ (.int .u32 (G k))).setCell ⟨g, off + k, none⟩ (.int .u32 (G j))) (swp x j k) := by
  have e := swap_worldA eU W 0 q g off x j k hj hk
  rw [Sort.ahead_zero, putRow_self _ _ _ _ _ h.holds] at e
  rw [hG, hG]
  have h2 := h.put (0 + q) (swp x j k) (size_swp _ _ _)
  rw [← e] at h2
  exact h2
theorem RowU.below {W' : World} (h : RowU w g off W x) (hb : Below W.heap.size W W') : RowU w g off W' x := by
  have hl := h.lt
  refine ⟨fun j hj => ⟨(hb.cell hl).trans (h.holds j hj).1, (hb.frozen (p := ⟨g, off + j, none⟩) hl).trans (h.holds j hj).2⟩, h.grown.trans ⟨hb.os, hb.tape, hb.output, hb.size, fun i hi _ => hb.block i hi⟩, fun cur E fr e => ?_, h.here⟩
  obtain ⟨c', e', hs⟩ := h.shape cur E fr e
  exact ⟨c', (hb.block g hl).trans e', hs⟩
theorem RowU.cells (h : RowU w g off W x) (hN : x.size = N) {G : Nat → Int} (hG : ∀ t, G t = x[t]!) (t : Nat) (ht : t < N) : W.cell? ⟨g, off + t, none⟩ = some (.int .u32 (G t)) := by
  rw [hG]
  exact (h.holds t (by omega)).1
theorem RowU.frz (h : RowU w g off W x) (hN : x.size = N) (t : Nat) (ht : t < N) : W.frozen? ⟨g, off + t, none⟩ = false := (h.holds t (by omega)).2
end
theorem getG (x : Array Int) : ∃ G : Nat → Int, ∀ t, G t = x[t]! := ⟨fun t => x[t]!, fun _ => rfl⟩

section
variable {w W : World} {g off N : Nat} {x : Array Int} (cap : Nat)
set_option maxHeartbeats 1000000 in
set_option maxRecDepth 100000 in
theorem urev_calls (h : RowU w g off W x) (hN : x.size = N) (a b : Nat) (hab : a ≤ b) (hb : b ≤ N) (hsz : N < 4611686018427387904) :
    Calls Try.prog 51 #[.slice (some ⟨g, off, none⟩) N cap, .int .i64 a, .int .i64 b] W fun e W' => e = .returned (.tuple #[]) ∧ ∃ y, RowU w g off W' y ∧ PermIn a b x y := by
  go_enter Try.func51, Try.ntmps51
  go_wp2
  go_loopw [6, 7] (fun vi vj wr => ∃ (i : Nat) (jz : Int) (y : Array Int), vi = .int .i64 i ∧ vj = .int .i64 jz ∧ a ≤ i ∧ i ≤ b ∧ jz < b ∧ -1 ≤ jz ∧ RowU w g off wr y ∧ PermIn a b x y) (fun vi _ _ => b - (intOf vi).toNat)
  case atStart => exact ⟨a, (b : Int) - 1, x, rfl, by go_num, Nat.le_refl _, hab, by omega, by omega, h, permIn_refl _ _ _⟩
  case round =>
    clear h
    obtain ⟨i, jz, y, rfl, rfl, hai, hib, hjb, hj1, hR, hP⟩ := hrel
    have hyN : y.size = N := hP.1.trans hN
    by_cases hlt : (i : Int) < jz
    · obtain ⟨j, rfl⟩ : ∃ j : Nat, jz = j := ⟨jz.toNat, by omega⟩
      obtain ⟨G, hG⟩ := getG y
      have hcw := hR.cells hyN hG
      have hfw := hR.frz hyN
      have HR := Lib.hid hR
      have HG := Lib.hid hG
      have HP := Lib.hid hP
      clear hR hG hP
      go_wp2
      go_region
      all_goals go_wp2
      go_roundw
      case rel =>
        exact ⟨i + 1, (j : Int) - 1, swp y i j, by go_num, by go_num, by omega, by omega, by omega, by omega, HR.out.swap HG.out (by omega) (by omega) 1, permIn_trans _ _ _ _ _ HP.out (swp_permIn y a b i j (by omega) (by omega) (by omega) (by omega) (by omega))⟩
      case measure => simp [intOf]; omega
    · go_wp2
      go_end0
      exact ⟨rfl, y, hR, hP⟩
end
end Go.Proofs.Ytomhkflcimbbiaa
