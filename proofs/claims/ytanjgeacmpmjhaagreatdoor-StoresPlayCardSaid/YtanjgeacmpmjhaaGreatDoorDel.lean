import Derived.Test.YtanjgeacmpmjhaaGreatDoorIns
set_option linter.unusedVariables false
set_option linter.unusedSimpArgs false
namespace Go.Proofs.YtanjgeacmpmjhaaGreatDoor
open Go.RowKit

/-- Place i is taken away. -/
def cutL {α : Type} (xs : List α) (i : Nat) : List α := xs.take i ++ xs.drop (i + 1)
theorem cutL_length {α : Type} (xs : List α) (i : Nat) (h : i < xs.length) : (cutL xs i).length = xs.length - 1 := by simp [cutL]; omega

def zrow : Value := .agg #[.string ⟨#[]⟩, .int .u32 0]
theorem zero_row (w : World) : (zeroValue 44).run Tryz.prog w = .ok zrow w := Tryz.zeroValue44 w

set_option maxHeartbeats 1000000 in
set_option maxRecDepth 100000 in
theorem del_own (g cap i : Nat) (cur : List Value) (xs : List Row) (w : World) (hi : i < xs.length) (hlc : xs.length ≤ cap) (hc : cap ≤ maxLen)
    (hg : w.heap[g]? = some (.cells cur.toArray 44 (0, 0))) (hsz : cur.length = cap * 2) (ht : cur.take (xs.length * 2) = xs.flatMap Row.enc) :
    Calls Tryz.prog 182 #[.slice (some ⟨g, 0, none⟩) xs.length cap, .int .i64 i, .int .i64 ((i : Int) + 1)] w fun e w' =>
      e = .returned (.slice (some ⟨g, 0, none⟩) (xs.length - 1) cap) ∧ w' = w.drew.setRow g (over (over cur (i * 2) ((xs.drop (i + 1)).flatMap Row.enc)) ((xs.length - 1) * 2) zrow.cells.toList).toArray := by
  unfold maxLen at hc
  obtain ⟨i0, hi0, hz0, hzs, hzb⟩ := info_parts info_rowi
  obtain ⟨A, hA, hsrc⟩ : ∃ A : Addr, (if cap = i + 1 then some (⟨g, 0, none⟩ : Addr) else some ⟨g, (i + 1) * 2, none⟩) = some A ∧ Hid (∀ j v, ((xs.drop (i + 1)).flatMap Row.enc)[j]? = some v → w.drew.cell? (A.add j) = some v) := by
    by_cases h : cap = i + 1
    · refine ⟨_, if_pos h, fun j v hj => ?_⟩
      have := (List.getElem?_eq_some_iff.1 hj).1
      rw [flat_length row_len, List.length_drop] at this
      omega
    · refine ⟨_, if_neg h, fun j v hj => ?_⟩
      rw [Addr.add_lit, World.cell?_drew]
      have : cur[(i + 1) * 2 + j]? = some v := by
        rw [← flat_drop row_len, ← ht, List.getElem?_drop, List.getElem?_take] at hj
        split at hj
        · exact hj
        · cases hj
      simp [World.cell?, hg, this]
  have hl1 : ((xs.drop (i + 1)).flatMap Row.enc).length = (xs.length - (i + 1)) * 2 := by rw [flat_length row_len, List.length_drop]
  have hf1 : Hid (i * 2 + ((xs.drop (i + 1)).flatMap Row.enc).length ≤ cur.length) := by
    show _ ≤ _
    rw [hl1]; omega
  have ho1 : Hid (∀ v ∈ (xs.drop (i + 1)).flatMap Row.enc, v.oneCell' = true) := fun v hv => by
    obtain ⟨y, _, hy⟩ := List.mem_flatMap.1 hv
    exact row_one y v hy
  obtain ⟨W1, hW1⟩ : ∃ W1, W1 = w.drew.setRow g (over cur (i * 2) ((xs.drop (i + 1)).flatMap Row.enc)).toArray := ⟨_, rfl⟩
  have hg1 : W1.heap[g]? = some (.cells (over cur (i * 2) ((xs.drop (i + 1)).flatMap Row.enc)).toArray 44 (0, 0)) := by rw [hW1]; exact setRow_heap _ _ _ _ _ _ hg
  have hcl := fun ty c => run_clear_one (P := Tryz.prog) (w := W1) 56 ty 44 zrow under_rows zero_row g ((xs.length - 1) * 2) c _ _ hg1 (by rw [over_length hf1.out, hsz]; show _ + 2 ≤ _; omega) (by
    intro v hv
    have : v ∈ [Value.string ⟨#[]⟩, .int .u32 0] := hv
    simp only [List.mem_cons, List.not_mem_nil, or_false] at this
    rcases this with rfl | rfl <;> rfl)
  generalize hW2 : W1.setRow g _ = W2 at hcl
  have X := Lib.hid (show W2 = w.drew.setRow g (over (over cur (i * 2) ((xs.drop (i + 1)).flatMap Row.enc)) ((xs.length - 1) * 2) zrow.cells.toList).toArray by rw [← hW2, hW1, setRow_setRow])
  have H1 := Lib.hid hW1
  clear hW1 hW2 hg1
  have e1 : i + (xs.length - (i + 1)) = xs.length - 1 := by omega
  have e2 : xs.length - (xs.length - 1) = 1 := by omega
  have e3 : ¬ cap = xs.length - 1 := by omega
  have hb3 : i ≤ xs.length := by omega
  have hb6 : (i : Int) + 1 ≤ (xs.length : Int) := by omega
  have hb7 : i + 1 ≤ xs.length := by omega
  have hb8 : (i : Int) < (xs.length : Int) := by omega
  have hb4 : i ≤ cap := by omega
  have hb5 : i + 1 ≤ cap := by omega
  have hw1 : IntKind.i64.wrap ((i : Int) + 1) = (i : Int) + 1 := by rw [IntKind.wrap_i64]; omega
  have hb1 : (0 : Int) ≤ (i : Int) + 1 := by omega
  have htn : ((i : Int) + 1).toNat = i + 1 := by omega
  go_enter Tryz.func182, Tryz.ntmps182
  go_wp2_with fail
  go_region_law (refine step_append_k rfl (.tmp 22) (.tmp 25) 56 rfl 44 i0 2 under_rows hi0 hzs g i cap A (xs.length - (i + 1)) (cap - (i + 1)) (by simp [Act.eval, Act.put]) (by simp [Act.eval, Act.put]) cur 44 hg ((xs.drop (i + 1)).flatMap Row.enc) hl1 hsrc.out (by omega) hf1.out ho1.out ?_; intro W3 hW3; obtain rfl := hW3.out.trans H1.out.symm)
  go_wp2
  go_ret
  exact ⟨rfl, X.out⟩

set_option maxHeartbeats 400000 in
theorem delete_calls (base i : Nat) (v : Value) (xs : List Row) (w : World) (hown : Own Row.enc 2 44 base w v xs) (hi : i < xs.length) :
    Calls Tryz.prog 182 #[v, .int .i64 i, .int .i64 ((i : Int) + 1)] w fun e w' =>
      ∃ v', e = .returned v' ∧ Own Row.enc 2 44 base w' v' (cutL xs i) ∧ w.grownBy w' v.ownBlock ∧ v'.ownBlock = v.ownBlock := by
  obtain ⟨g, cap, cur, rfl, hbg, hg, hlc, hcm, hsz, ht⟩ := hown.some_block (by omega)
  refine (del_own g cap i cur.toList xs w hi hlc hcm hg (by simpa using hsz) ht).mono ?_
  rintro e w' ⟨rfl, rfl⟩
  have hl1 : ((xs.drop (i + 1)).flatMap Row.enc).length = (xs.length - (i + 1)) * 2 := by rw [flat_length row_len, List.length_drop]
  have hl2 : cur.toList.length = cap * 2 := by simpa using hsz
  have hf1 : i * 2 + ((xs.drop (i + 1)).flatMap Row.enc).length ≤ cur.toList.length := by rw [hl1, hl2]; omega
  have hz : zrow.cells.toList.length = 2 := rfl
  have hlen := cutL_length xs i hi
  refine ⟨_, rfl, ?_, ?_, rfl⟩
  · rw [← hlen]
    refine Own.turned (old := cur) hg hbg (by omega) hcm ?_ row_len ?_
    · show (List.toArray _).size = _
      rw [List.size_toArray, over_length (by rw [over_length hf1, hz, hlen]; omega), over_length hf1, hl2]
    · show List.take _ (List.toArray _).toList = _
      rw [hlen, List.toList_toArray]
      have h1 : (cur.toList.take (i * 2)) = (xs.take i).flatMap Row.enc := by
        rw [← flat_take row_len, ← ht, List.take_take, Nat.min_eq_left (by omega)]
      unfold over
      rw [h1, List.append_assoc, List.take_left' (by
        rw [List.length_take, List.length_append, List.length_append, List.length_drop, flat_length row_len, List.length_take, hl1, hl2]; omega), List.take_left' (by
        rw [List.length_append, flat_length row_len, List.length_take, hl1]; omega)]
      simp [cutL]
  · have h1 := grownBy_setRow w.drew g (over (over cur.toList (i * 2) ((xs.drop (i + 1)).flatMap Row.enc)) ((xs.length - 1) * 2) zrow.cells.toList).toArray
    exact ⟨h1.os, h1.tape, h1.output, h1.size, h1.block⟩

end Go.Proofs.YtanjgeacmpmjhaaGreatDoor
