import Derived.Test.YtanjgeacmpmjhaaGreatDoorMgLocksPlay6
import Derived.Test.YtanjgeacmpmjhaaGreatDoorLayBitsLen
import Derived.Shelf.Small.Bits
import Derived.Sort.WalkA14
import Derived.Sort.LotD1
import Derived.Sort.LotD5
import Derived.Laws.Bits64
import Derived.Laws.Bits64b
set_option linter.unusedVariables false
set_option linter.unusedSimpArgs false
set_option linter.unusedSectionVars false
namespace Go.Proofs.YtanjgeacmpmjhaaGreatDoor
open Go.RowKit Go.Shelf
open Go.Sort (Holds putRow swp PermIn SortedIn ltInt holds_putRow holds_ahead putRow_self permIn_refl permIn_trans swp_permIn size_swp mapBlock setCell_eq mapBlock_mapBlock)

theorem set_set (w : World) (B : Nat) (v v' : Value) : (w.setCell ⟨B, 0, none⟩ v).setCell ⟨B, 0, none⟩ v' = w.setCell ⟨B, 0, none⟩ v' := by
  rw [setCell_eq, setCell_eq, mapBlock_mapBlock, setCell_eq]
  congr 1
  funext c
  simp

set_option maxHeartbeats 1000000 in
set_option maxRecDepth 100000 in
theorem unext_calls (X : Nat) (hX : X < 18446744073709551616) (W : World) (B : Nat) (hb : Boxed W B 298 (.int .u64 X)) :
    Calls Tryz.prog 256 #[.pointer (some ⟨B, 0, none⟩)] W fun e W' => ∃ R : Nat, R < 18446744073709551616 ∧ e = .returned (.int .u64 R) ∧ W' = (W.setCell ⟨B, 0, none⟩ (.int .u64 R)).drewN 3 := by
  obtain ⟨p, hp⟩ : ∃ p : Nat, p = X ^^^ (X * 8192 % 18446744073709551616) := ⟨_, rfl⟩
  obtain ⟨q, hq⟩ : ∃ q : Nat, q = p ^^^ (p / 128) := ⟨_, rfl⟩
  obtain ⟨r, hr⟩ : ∃ r : Nat, r = q ^^^ (q * 131072 % 18446744073709551616) := ⟨_, rfl⟩
  have lp : p < 18446744073709551616 := by rw [hp]; exact Nat.xor_lt_two_pow (n := 64) (by omega) (by omega)
  have lq : q < 18446744073709551616 := by rw [hq]; exact Nat.xor_lt_two_pow (n := 64) (by omega) (by omega)
  have lr : r < 18446744073709551616 := by rw [hr]; exact Nat.xor_lt_two_pow (n := 64) (by omega) (by omega)
  have e1 : bits .xor .u64 (X : Int) (IntKind.u64.wrap ((X : Int) * 8192)) = (p : Int) := by
    rw [IntKind.wrap_u64, show ((X : Int) * 8192 % 18446744073709551616) = ((X * 8192 % 18446744073709551616 : Nat) : Int) by omega, bits_xor_u64_nat _ _ hX (by omega), hp]
  have e2 : bits .xor .u64 (p : Int) ((p : Int) / 128) = (q : Int) := by
    rw [show ((p : Int) / 128) = ((p / 128 : Nat) : Int) by omega, bits_xor_u64_nat _ _ lp (by omega), hq]
  have e3 : bits .xor .u64 (q : Int) (IntKind.u64.wrap ((q : Int) * 131072)) = (r : Int) := by
    rw [IntKind.wrap_u64, show ((q : Int) * 131072 % 18446744073709551616) = ((q * 131072 % 18446744073709551616 : Nat) : Int) by omega, bits_xor_u64_nat _ _ lq (by omega), hr]
  have hc := hb.cell
  have hf := hb.frozen
  have hss : ∀ v v', (W.setCell ⟨B, 0, none⟩ v).setCell ⟨B, 0, none⟩ v' = W.setCell ⟨B, 0, none⟩ v' := set_set W B
  clear hp hq hr hb
  go_enter Tryz.func256, Tryz.ntmps256
  go_wp2
  go_region
  all_goals go_wp2
  all_goals go_region
  all_goals go_wp2
  all_goals go_region
  all_goals go_wp2
  go_ret
  exact ⟨r, lr, rfl, rfl⟩

set_option maxHeartbeats 1000000 in
theorem unp2_calls (n : Nat) (h0 : 0 < n) (hn : n < 4611686018427387904) (w : World) :
    Calls Tryz.prog 255 #[.int .i64 n] w fun e w' => e = .returned (.int .u64 ((1 <<< Sort.bitsLen n : Nat) : Int)) ∧ w' = w := by
  have hLen : ∀ w, Calls Tryz.prog 217 #[.int .u64 (n : Int)] w fun e w' => e = .returned (.int .i64 (Sort.bitsLen n : Nat)) ∧ w' = w := fun w => by
    have h := Any.bits_Len bitsLen (n : Int) w (by omega) (by omega)
    rw [Int.toNat_natCast, bitLen_eq _ (by omega)] at h
    exact h
  have hk : Sort.bitsLen n ≤ 62 := (Sort.bitsLen_le_iff n 62).2 (by omega)
  have hp : IntKind.u64.wrap ((2 : Int) ^ Sort.bitsLen n) = ((1 <<< Sort.bitsLen n : Nat) : Int) := by
    have h : (2 : Nat) ^ Sort.bitsLen n ≤ 2 ^ 62 := Nat.pow_le_pow_right (by decide) hk
    rw [IntKind.wrap_u64, Nat.one_shiftLeft, show ((2 : Int) ^ Sort.bitsLen n) = ((2 ^ Sort.bitsLen n : Nat) : Int) by push_cast; rfl]
    generalize (2 : Nat) ^ Sort.bitsLen n = p at h
    omega
  go_enter Tryz.func255, Tryz.ntmps255
  go_wp2_with (first | (go_at_call 217; refine (hLen _).mono ?_; rintro e w' ⟨rfl, rfl⟩))
  go_ret
  exact ⟨rfl, rfl⟩

section
variable {w W : World} {g off N : Nat} {x : Array Int}
theorem RowU.other (h : RowU w g off W x) {B : Nat} (hB : w.heap.size ≤ B) (u : Value) : RowU w g off (W.setCell ⟨B, 0, none⟩ u) x := by
  have hg := h.here
  have e : ∀ k, k ≠ B → (W.setCell ⟨B, 0, none⟩ u).heap[k]? = W.heap[k]? := fun k hk => Below.heap_setCell _ _ _ _ hk
  have eg := e g (by omega)
  have hgr := grownBy_setCell' W B u
  refine ⟨fun j hj => ⟨(World.cell?_of_block (w := W) eg).trans (h.holds j hj).1, (World.frozen?_of_block (w := W) eg).trans (h.holds j hj).2⟩, ⟨hgr.os.trans h.grown.os, hgr.tape.trans h.grown.tape, hgr.output.trans h.grown.output, Nat.le_trans h.grown.size hgr.size, fun k hk hne => (e k (by omega)).trans (h.grown.block k hk hne)⟩, fun cur E fr hc => ?_, hg⟩
  obtain ⟨c', h1, h2⟩ := h.shape cur E fr hc
  exact ⟨c', eg.trans h1, h2⟩
theorem swap_grown (h : RowU w g off W x) {G : Nat → Int} (hG : ∀ t, G t = x[t]!) {j k : Nat} (hj : j < x.size) (hk : k < x.size) (q : Nat) :
    W.grownBy (((W.drewN q).setCell ⟨g, off + j, none⟩ (.int .u32 (G k))).setCell ⟨g, off + k, none⟩ (.int .u32 (G j))) (some g) := by
  have e := swap_worldA eU W 0 q g off x j k hj hk
  rw [Sort.ahead_zero, putRow_self _ _ _ _ _ h.holds] at e
  rw [hG, hG]
  have h2 := grown_putRow (g := g) (off := off) W (0 + q) (swp x j k)
  rw [← e] at h2
  exact h2

set_option maxHeartbeats 2000000 in
set_option maxRecDepth 100000 in
theorem ubrk_calls (cap : Nat) (h : RowU w g off W x) (hN : x.size = N) (a b : Nat) (hab : a + 8 ≤ b) (hb : b ≤ N) (hsz : N < 4611686018427387904) :
    Calls Tryz.prog 238 #[.slice (some ⟨g, off, none⟩) N cap, .int .i64 a, .int .i64 b] W fun e W' => e = .returned (.tuple #[]) ∧ ∃ y, RowU w g off W' y ∧ PermIn a b x y := by
  obtain ⟨L, rfl⟩ : ∃ L, b = a + L := ⟨b - a, by omega⟩
  obtain ⟨M, hM⟩ : ∃ M : Nat, 1 <<< Sort.bitsLen L = M := ⟨_, rfl⟩
  have hM1 : 1 ≤ M := by rw [← hM, Nat.one_shiftLeft]; exact Nat.two_pow_pos _
  have hM2 : M ≤ 2 * L := by rw [← hM, Nat.one_shiftLeft]; exact Sort.two_pow_bitsLen_le (by omega)
  have hnp := fun w => unp2_calls L (by omega) (by omega) w
  rw [hM] at hnp
  clear hM
  have e0 : ((a : Int) + (L : Int) - (a : Int)) = (L : Int) := by omega
  have hst := h.below (W' := W.alloc (.cells #[.int .u64 (L : Int)] 298)) ((Below.refl _ W).alloc (Nat.le_refl _) _)
  have hbx : Boxed (W.alloc (.cells #[.int .u64 (L : Int)] 298)) W.heap.size 298 (.int .u64 (L : Nat)) := Boxed.new _ _ _
  have hws := h.grown.size
  have hgl := h.here
  clear h
  go_enter Tryz.func238, Tryz.ntmps238
  go_wp2_with (first | (go_at_call 255; (try rw [e0]); refine (hnp _).mono ?_; rintro e w' ⟨rfl, rfl⟩))
  generalize W.heap.size = B at *
  generalize hW1 : W.alloc _ = W1 at *
  clear hW1
  go_loopw [9] (fun vi wr => ∃ (t X : Nat) (y : Array Int), vi = .int .i64 ((a + L / 4 * 2 - 1 + t : Nat) : Int) ∧ t ≤ 3 ∧ X < 18446744073709551616 ∧ RowU w g off wr y ∧ Boxed wr B 298 (.int .u64 X) ∧ PermIn a (a + L) x y) (fun vi _ => a + L / 4 * 2 + 3 - (intOf vi).toNat)
  case atStart => exact ⟨0, L, x, by congr 1; omega, by omega, by omega, hst, hbx, permIn_refl _ _ _⟩
  case round =>
    clear hst hbx
    obtain ⟨t, X, y, rfl, ht, hX, hR, hbx, hP⟩ := hrel
    have hyN : y.size = N := hP.1.trans hN
    obtain ⟨I, hI⟩ : ∃ I : Nat, a + L / 4 * 2 - 1 + t = I := ⟨_, rfl⟩
    have hnext := unext_calls X hX wr B hbx
    have HR := Lib.hid hR
    have HB := Lib.hid hbx
    have HP := Lib.hid hP
    clear hR hbx hP
    by_cases ht3 : t < 3
    · obtain ⟨G, hG⟩ := getG y
      have HG := Lib.hid hG
      clear hG
      rw [hI]
      have hI1 : a ≤ I ∧ I < a + L ∧ (I : Int) ≤ (a : Int) + (L : Int) / 4 * 2 + 1 := by omega
      go_wp2_with (first
        | (go_at_call 256; refine hnext.mono ?_; rintro e w' ⟨R, hR64, rfl, hw'⟩
           have hR2 := (HR.out.other (B := B) (by omega) (.int .u64 R)).drewN 3
           have hB2 : Boxed ((wr.setCell ⟨B, 0, none⟩ (.int .u64 R)).drewN 3) B 298 (.int .u64 R) := HB.out.set _
           rw [← hw'] at hR2 hB2
           clear hw' hnext
           have hcw := hR2.cells hyN HG.out
           have hfw := hR2.frz hyN
           have HR2 := Lib.hid hR2
           have HB2 := Lib.hid hB2
           clear hR2 hB2
           obtain ⟨O, hO⟩ : ∃ O : Nat, O = R &&& (M - 1) := ⟨_, rfl⟩
           have lO : O ≤ M - 1 := by rw [hO]; exact Nat.and_le_right
           have eAnd : bits .and .u64 (R : Int) ((M : Int) - 1) = (O : Int) := by
             rw [show ((M : Int) - 1) = ((M - 1 : Nat) : Int) by omega, bits_and_u64_nat _ _ hR64 (by omega), hO]
           clear hO))
      · -- beyond it
        have hLO : L ≤ O := by omega
        obtain ⟨K, hK⟩ : ∃ K : Nat, O - L = K := ⟨_, rfl⟩
        have eK : ((O : Int) - (L : Int)) = (K : Int) := by omega
        have hor : I = a + K ∨ I ≠ a + K := by omega
        rcases hor with hEq | hEq
        all_goals
          go_region
          all_goals go_wp2
          go_roundw
          case rel =>
            refine ⟨t + 1, R, swp y I (a + K), by first | (congr 1; omega) | (simp; omega), by omega, hR64, ?_, ?_, ?_⟩
            · have := HR2.out.swap HG.out (j := I) (k := a + K) (by omega) (by omega) 1
              first | exact this | (rw [hEq] at this ⊢; exact this)
            · have := HB2.out.kept (swap_grown HR2.out HG.out (j := I) (k := a + K) (by omega) (by omega) 1) (by simp; omega)
              first | exact this | (rw [hEq] at this; exact this)
            · exact permIn_trans _ _ _ _ _ HP.out (swp_permIn y a (a + L) I (a + K) (by omega) (by omega) (by omega) (by omega) (by omega))
          case measure => simp [intOf]; omega
      · have hLO : ¬ L ≤ O := by omega
        have hor : I = a + O ∨ I ≠ a + O := by omega
        rcases hor with hEq | hEq
        all_goals
          go_region
          all_goals go_wp2
          go_roundw
          case rel =>
            refine ⟨t + 1, R, swp y I (a + O), by first | (congr 1; omega) | (simp; omega), by omega, hR64, ?_, ?_, ?_⟩
            · have := HR2.out.swap HG.out (j := I) (k := a + O) (by omega) (by omega) 1
              first | exact this | (rw [hEq] at this ⊢; exact this)
            · have := HB2.out.kept (swap_grown HR2.out HG.out (j := I) (k := a + O) (by omega) (by omega) 1) (by simp; omega)
              first | exact this | (rw [hEq] at this; exact this)
            · exact permIn_trans _ _ _ _ _ HP.out (swp_permIn y a (a + L) I (a + O) (by omega) (by omega) (by omega) (by omega) (by omega))
          case measure => simp [intOf]; omega
    · have : t = 3 := by omega
      subst this
      go_wp2
      go_end0
      exact ⟨rfl, y, HR.out, HP.out⟩
end
end Go.Proofs.YtanjgeacmpmjhaaGreatDoor
