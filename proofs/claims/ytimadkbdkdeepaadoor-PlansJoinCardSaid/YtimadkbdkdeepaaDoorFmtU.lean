import Derived.Test.YtimadkbdkdeepaaDoorWord0
import Derived.Test.YtimadkbdkdeepaaDoorLaySmallL
import Derived.Test.YtimadkbdkdeepaaDoorLayNumDigL
import Derived.Test.YtimadkbdkdeepaaDoorLayFmtTenL
import Derived.Shelf.Strconv.Itoa3
import Derived.Lib.ItoaLen
set_option linter.unusedVariables false
set_option linter.unusedSimpArgs false
set_option linter.unusedSectionVars false
namespace Go.Proofs.YtimadkbdkdeepaaDoor
open Go.RowKit Go.Shelf Go.Sort Go.Lib

abbrev enc8 : UInt8 → Value := fun (b : UInt8) => Value.int .u8 (b.toNat : Int)
theorem holds_zero0 (w : World) (T : TypeId) (nd : Nat) (hs : nd ≤ 24) : Holds enc8 (w.alloc (.cells zeros24 T)) w.heap.size 0 (Array.replicate nd (0 : UInt8)) := fun j hj => by
  have hj' : j < nd := by simpa using hj
  refine ⟨?_, World.frozen?_alloc_new _ _ _ _⟩
  rw [World.cell?_alloc_new, zeros24_at _ (by omega), getElem!_pos _ j hj]
  simp
theorem fin_zero (w : World) (o : Obj) (dk : Array UInt8) (k : Nat) : Below w.heap.size w ((putRow enc8 (w.alloc o) w.heap.size 0 dk).drewN k) := by
  have : ∃ os, (putRow enc8 (w.alloc o) w.heap.size 0 dk).drewN k = grow (w.drewN k) os := by
    rw [alloc_eq_grow]
    obtain ⟨os', _, e⟩ := putRow_grow_new enc8 w #[o] w.heap.size 0 dk (Nat.le_refl _)
    exact ⟨os', by rw [e]; rfl⟩
  obtain ⟨os, e⟩ := this
  rw [e]
  exact Below.step (below_drewN w k) (below_grow _ _)

/-- A number's digits. -/
def digT (u : Nat) : ByteArray := ⟨(Lib.decDigits u).toArray⟩

set_option maxHeartbeats 800000 in
set_option maxRecDepth 100000 in
theorem fmtU_calls (u : Nat) (hu : u < 4294967296) (w : World) (hT : Tab10 w) :
    Calls Tryd.prog 49 #[.int .u64 u, .int .i64 10] w fun e w' => e = .returned (.string (digT u)) ∧ Below w.heap.size w w' := by
  by_cases hs : u < 100
  · have hc := Any.internal_strconv_small smallL u hs w
    have hc2 : Calls Tryd.prog 62 #[.int .i64 u] w fun e w' => e = .returned (.string (digT u)) ∧ w' = w := hc
    clear hc
    generalize digT u = t at *
    go_enter Tryd.func49, Tryd.ntmps49
    go_wp2_with (go_at_call 62; refine hc2.mono ?_; rintro e w' ⟨rfl, rfl⟩)
    go_ret
    exact ⟨rfl, Below.refl _ _⟩
  · have hu1 : 1 ≤ u := by omega
    have hu64 : u < 18446744073709551616 := by omega
    have hnd20 : Lib.nDigits u ≤ 20 := by have := Lib.numDigits_eq u hu1 hu64; split at this <;> omega
    have hb3 : Lib.nDigits u ≤ 24 := by omega
    have hal : Tryd.prog.arrayLen 107 = 24 := by kernel_rfl
    have hsl1 : ∀ W, (Instr.sliceAt 107 (.pointer (some ⟨w.heap.size, 0, none⟩)) none (some (.int .i64 (Lib.nDigits u : Int))) none).run Tryd.prog W = .ok (.slice (some ⟨w.heap.size, 0, none⟩) (Lib.nDigits u) 24) W := fun W => by
      rw [run_sliceAt_array_h W 107 ⟨w.heap.size, 0, none⟩ (by kernel_rfl) .i64 (Lib.nDigits u : Int) (by omega) (by rw [hal]; omega), hal]
      have h1 := Tryd.sizeOf5
      simp only [Program.elem, Tryd.underlying107] at *
      go_simp
    have hH0 := holds_zero0 w 107 (Lib.nDigits u) hb3
    have hfmt := Any.internal_strconv_formatBase10 fmtTenL w.heap.size 0 24 u (Array.replicate (Lib.nDigits u) 0) (w.alloc (.cells Lib.zeros24 107)) hH0 (by rw [Array.size_replicate]; exact Lib.lt_pow_nDigits u) hu64 (by rw [Array.size_replicate]; omega)
    rw [Array.size_replicate] at hfmt
    have hnum := Any.internal_strconv_numDigits numDigL u hu1 hu64 (w.alloc (.cells Lib.zeros24 107)) (Lib.tabIs_alloc hT _)
    have hfmt2 : Calls Tryd.prog 64 #[.slice (some ⟨w.heap.size, 0, none⟩) (Lib.nDigits u) 24, .int .u64 u] (w.alloc (.cells Lib.zeros24 107)) fun e w' =>
      e = .returned (.tuple #[]) ∧ ∃ (n v' : Nat) (dk : Array UInt8), w' = (putRow enc8 (w.alloc (.cells Lib.zeros24 107)) w.heap.size 0 dk).drewN n ∧ FmtInv (Lib.nDigits u) u 0 v' dk := hfmt
    have hnum2 : Calls Tryd.prog 63 #[.int .u64 u] (w.alloc (.cells Lib.zeros24 107)) fun e w' => e = .returned (.int .i64 (Lib.nDigits u)) ∧ w' = (w.alloc (.cells Lib.zeros24 107)) := hnum
    clear hfmt hnum
    have HH0 := Lib.hid hH0
    clear hH0
    go_enter Tryd.func49, Tryd.ntmps49
    go_wp2_with (go_at_call 63; refine hnum2.mono ?_; rintro e w' ⟨rfl, rfl⟩)
    go_wp2_with (go_at_call 64; refine hfmt2.mono ?_; rintro e w' ⟨rfl, k, v', dk, rfl, hF⟩)
    have hcv : (convert 110 9 (.slice (some ⟨w.heap.size, 0, none⟩) (Lib.nDigits u) 24)).run Tryd.prog ((putRow enc8 (w.alloc (.cells Lib.zeros24 107)) w.heap.size 0 dk).drewN k) = .ok (.string (digT u)) ((putRow enc8 (w.alloc (.cells Lib.zeros24 107)) w.heap.size 0 dk).drewN k) := by
      have h := run_convert_bytes_back (P := Tryd.prog) ((putRow enc8 (w.alloc (.cells Lib.zeros24 107)) w.heap.size 0 dk).drewN k) 110 9 5 ⟨w.heap.size, 0, none⟩ 24 (Lib.decDigits u) Tryd.underlying110 Tryd.underlying5 Tryd.underlying9 (fun j hj => by
        rw [Lib.row_is_numeral hF j hj, Lib.add_plain, World.cell?_drewN]
        exact cell?_putRow enc8 _ w.heap.size 0 _ dk HH0.out (by rw [hF.size, Array.size_replicate]) j (by rw [hF.size]; rw [Lib.decDigits_length] at hj; exact hj))
      rw [Lib.decDigits_length] at h
      exact h
    go_wp2
    erw [hcv]
    go_wp2
    go_ret
    exact ⟨rfl, fin_zero w _ dk k⟩

set_option maxHeartbeats 800000 in
theorem fmtS_calls (u : Nat) (hu : u < 4294967296) (w : World) (hT : Tab10 w) :
    Calls Tryd.prog 26 #[.int .u64 u, .int .i64 10] w fun e w' => e = .returned (.string (digT u)) ∧ Below w.heap.size w w' := by
  have h := fmtU_calls u hu w hT
  generalize digT u = t at *
  go_enter Tryd.func26, Tryd.ntmps26
  go_wp2_with (go_at_call 49; refine h.mono ?_; rintro e w' ⟨rfl, hb⟩)
  go_ret
  exact ⟨rfl, hb⟩

theorem digT_size (n : Nat) (hn : n < 4294967296) : (digT n).size ≤ 20 := by
  show ((Lib.decDigits n).toArray).size ≤ 20
  rw [List.size_toArray, Lib.decDigits_length]
  exact Lib.nDigits_le20 n (by omega)

/-- The key of marker n. -/
def markT (n : Nat) : ByteArray := (⟨#[95, 109]⟩ : ByteArray) ++ digT n

set_option maxHeartbeats 800000 in
theorem marker_calls (n : Nat) (hn : n < 4294967296) (w : World) (hT : Tab10 w) :
    Calls Tryd.prog 10 #[.int .u32 n] w fun e w' => e = .returned (.string (markT n)) ∧ Below w.heap.size w w' := by
  have h := fmtS_calls n hn w hT
  have hsz := digT_size n hn
  unfold markT
  generalize digT n = t at *
  go_enter Tryd.func10, Tryd.ntmps10
  go_wp2_with (go_at_call 26; refine h.mono ?_; rintro e w' ⟨rfl, hb⟩)
  go_ret
  exact ⟨rfl, hb⟩

end Go.Proofs.YtimadkbdkdeepaaDoor
