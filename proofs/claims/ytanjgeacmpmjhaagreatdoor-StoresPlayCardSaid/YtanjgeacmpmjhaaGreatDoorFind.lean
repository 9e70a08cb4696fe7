import Derived.Test.YtanjgeacmpmjhaaGreatDoorProg
import Derived.Test.YtanjgeacmpmjhaaGreatDoorKinds
import Derived.Test.YtanjgeacmpmjhaaGreatDoorMapP
import Derived.Test.YtanjgeacmpmjhaaGreatDoorCmp
import Derived.Shelf.Abstract
set_option linter.unusedVariables false
set_option linter.unusedSimpArgs false
namespace Go.Proofs.YtanjgeacmpmjhaaGreatDoor
open Go.RowKit Go.Shelf

set_option maxHeartbeats 400000 in
theorem find1_calls (k : ByteArray) (v : Int) (w : World) :
    Calls Tryz.prog 188 #[.agg #[.string k, .int .u32 v]] w fun e w' => e = .returned (.string k) ∧ Below w.heap.size w w' := by
  go_enter Tryz.func188, Tryz.ntmps188
  go_wp2
  go_ret
  exact ⟨rfl, (Below.refl _ _).alloc (Nat.le_refl _) _⟩

set_option maxHeartbeats 400000 in
theorem place1_calls (k key : ByteArray) (v : Int) (B : Nat) (w : World) (c0 : w.cell? ⟨B, 0, none⟩ = some (.func (.func 188) #[] #[])) :
    Calls Tryz.prog 232 #[.agg #[.string k, .int .u32 v], .string key, .pointer (some ⟨B, 0, none⟩)] w fun e w' => e = .returned (.int .i64 (scmp k key)) ∧ Below w.heap.size w w' := by
  have hlt : B < w.heap.size := World.block_lt_of_cell? w _ c0
  have hne : ¬ w.heap.size = B := by omega
  have eg := enters_of Tryz.func188 (by kernel_rfl) rfl
  go_enter Tryz.func232, Tryz.ntmps232
  go_wp2_with (first | (go_at_call 188; refine (find1_calls _ _ _).mono ?_; rintro e w1 ⟨rfl, hb1⟩) | (go_at_call 233; refine (compare_calls _ _ _).mono ?_; rintro e w2 ⟨rfl, rfl⟩))
  go_ret
  exact ⟨rfl, Below.step ((Below.refl _ _).alloc (Nat.le_refl _) _) hb1⟩

set_option maxHeartbeats 400000 in
theorem search_calls (key : ByteArray) (B : Nat) (v : Value) (xs : List Row) (w : World) (hv : Rd Row.enc 2 w v xs) (hr : Rising xs) (hl : xs.length ≤ 1000000000)
    (c0 : w.cell? ⟨B, 0, none⟩ = some (.func (.func 188) #[] #[])) :
    Calls Tryz.prog 231 #[v, .string key, .func (.func 232) #[] #[.pointer (some ⟨B, 0, none⟩)]] w
      fun e w' => e = .returned (.tuple #[.int .i64 (posL key xs), .bool (getL key xs).isSome]) ∧ Below w.heap.size w w' := by
  have eg := enters_of Tryz.func232 (by kernel_rfl) rfl
  obtain ⟨A, c, rfl, hlc, hc⟩ := hv.shape
  have hple := posL_le key xs
  have HS := Lib.hid (fun i x h => pos_search (k := key) hr i x h)
  have HF := Lib.hid (pos_found (k := key) hr)
  clear hr
  go_enter Tryz.func231, Tryz.ntmps231
  go_wp2
  go_loopw [9, 10] (fun iv jv wr => ∃ i j : Nat, iv = .int .i64 i ∧ jv = .int .i64 j ∧ i ≤ posL key xs ∧ posL key xs ≤ j ∧ j ≤ xs.length ∧ Below w.heap.size w wr) (fun iv jv _ => (intOf jv - intOf iv).toNat)
  case atStart => exact ⟨0, xs.length, rfl, rfl, Nat.zero_le _, hple, Nat.le_refl _, Below.refl _ _⟩
  case round =>
    obtain ⟨i, j, rfl, rfl, hip, hpj, hj, hb⟩ := hrel
    by_cases hij : i < j
    · have hh : (i + j) / 2 < xs.length := by omega
      have hh1 : i ≤ (i + j) / 2 := by omega
      have hh2 : (i + j) / 2 < j := by omega
      obtain ⟨b, o, rfl, hx1, hx2⟩ := (hv.below hb).row (List.getElem?_eq_getElem hh)
      have hS := HS.out _ _ (List.getElem?_eq_getElem hh)
      generalize xs[(i + j) / 2] = x at *
      have hcall := place1_calls x.k key x.v B wr (Below.cell_some hb c0)
      have hneg := scmp_neg x.k key
      generalize scmp x.k key = m at *
      by_cases hlt : slt x.k key = true
      · have hp := hS.1 hlt
        rw [hlt] at hneg
        have hm : m < 0 := of_decide_eq_true hneg
        clear hneg hS hlt
        go_wp2_with (go_at_call 232; refine hcall.mono ?_; rintro e w1 ⟨rfl, hb1⟩; clear hx1 hx2)
        go_roundw
        case rel => exact ⟨(i + j) / 2 + 1, j, by go_num, rfl, by omega, hpj, hj, Below.step hb hb1⟩
        case measure => simp [intOf]; omega
      · have hp : ¬ (i + j) / 2 < posL key xs := fun h => hlt (hS.2 h)
        have hm : ¬ m < 0 := fun h => by rw [decide_eq_true h] at hneg; exact hlt hneg.symm
        clear hneg hS hlt
        go_wp2_with (go_at_call 232; refine hcall.mono ?_; rintro e w1 ⟨rfl, hb1⟩; clear hx1 hx2)
        go_roundw
        case rel => exact ⟨i, (i + j) / 2, rfl, by go_num, hip, by omega, by omega, Below.step hb hb1⟩
        case measure => simp [intOf]; omega
    · have hi : i = posL key xs := by omega
      by_cases hn : i < xs.length
      · obtain ⟨b, o, rfl, hx1, hx2⟩ := (hv.below hb).row (List.getElem?_eq_getElem hn)
        have hX := List.getElem?_eq_getElem hn
        generalize xs[i] = x at *
        have hcall := place1_calls x.k key x.v B wr (Below.cell_some hb c0)
        have hz := scmp_zero x.k key
        generalize scmp x.k key = m at *
        have HR : (getL key xs).isSome = (m == 0) := by
          rw [hz, Bool.eq_iff_iff, Option.isSome_iff_ne_none, ← HF.out, decide_eq_true_eq, ← hi]
          constructor
          · rintro ⟨y, hy, e⟩
            rw [hX] at hy
            injection hy with hy
            rw [hy]; exact e
          · intro e
            exact ⟨x, hX, e⟩
        have HR' := Lib.hid HR
        have Hi := Lib.hid hi
        clear hz HR hi hX
        go_wp2_with (go_at_call 232; refine hcall.mono ?_; rintro e w1 ⟨rfl, hb1⟩; clear hx1 hx2)
        go_ret2
        exact ⟨by rw [HR'.out, ← Hi.out]; rfl, Below.step hb hb1⟩
      · have HR : (getL key xs).isSome = false := by
          rw [Bool.eq_false_iff, Ne, Option.isSome_iff_ne_none, ← HF.out]
          rintro ⟨y, hy, _⟩
          have := (List.getElem?_eq_some_iff.1 hy).1
          omega
        have HR' := Lib.hid HR
        have Hi := Lib.hid hi
        clear HR hi
        go_wp2
        go_ret2
        exact ⟨by rw [HR'.out, ← Hi.out]; rfl, hb⟩

end Go.Proofs.YtanjgeacmpmjhaaGreatDoor
