import Derived.Test.YtanjgeacmpmjhaaGreatDoorProg
import Derived.Test.YtanjgeacmpmjhaaGreatDoorKinds
import Derived.Test.YtanjgeacmpmjhaaGreatDoorOwn
set_option linter.unusedVariables false
set_option linter.unusedSimpArgs false
namespace Go.Proofs.YtanjgeacmpmjhaaGreatDoor
open Go.RowKit

theorem under_rows : Tryz.prog.underlying 56 = some (.slice 44) := by kernel_rfl
theorem info_size : (Tryz.prog.info? 44).map (·.size) = some 2 := by kernel_rfl
theorem info_rowi : (Tryz.prog.info? 44).map (fun i => (i.zero, i.size, i.bytes)) = some (some (.agg #[.string ⟨#[]⟩, .int .u32 0]), 2, 24) := by kernel_rfl
theorem under_int : Tryz.prog.underlying 3 = some (.int .i64) := by kernel_rfl

/-- An element is put at place i. -/
def insL {α : Type} (xs : List α) (i : Nat) (x : α) : List α := xs.take i ++ x :: xs.drop i
theorem insL_length {α : Type} (xs : List α) (i : Nat) (x : α) (h : i ≤ xs.length) : (insL xs i x).length = xs.length + 1 := by simp [insL]; omega

theorem flat_take {α : Type} {enc : α → List Value} {k : Nat} (hk : ∀ x, (enc x).length = k) (xs : List α) (i : Nat) : (xs.flatMap enc).take (i * k) = (xs.take i).flatMap enc := by
  induction xs generalizing i with
  | nil => simp
  | cons x xs ih =>
    cases i with
    | zero => simp
    | succ i =>
      rw [List.take_succ_cons, List.flatMap_cons, List.flatMap_cons, ← ih i, List.take_append, hk, show (i + 1) * k - k = i * k by rw [Nat.add_mul]; omega, List.take_of_length_le (by rw [hk, Nat.add_mul]; omega)]

theorem flat_drop {α : Type} {enc : α → List Value} {k : Nat} (hk : ∀ x, (enc x).length = k) (xs : List α) (i : Nat) : (xs.flatMap enc).drop (i * k) = (xs.drop i).flatMap enc := by
  induction xs generalizing i with
  | nil => simp
  | cons x xs ih =>
    cases i with
    | zero => simp
    | succ i =>
      rw [List.drop_succ_cons, List.flatMap_cons, ← ih i, List.drop_append, hk, show (i + 1) * k - k = i * k by rw [Nat.add_mul]; omega, List.drop_eq_nil_of_le (by rw [hk, Nat.add_mul]; omega), List.nil_append]

set_option maxHeartbeats 1000000 in
set_option maxRecDepth 100000 in
/-- slices.Insert, one element, ahead of the end, there is room. -/
theorem ins_room (g cap i vb : Nat) (cur : List Value) (xs : List Row) (x : Row) (w : World) (hi : i < xs.length) (hroom : xs.length < cap) (hc : cap ≤ maxLen) (hvb : vb ≠ g)
    (hg : w.heap[g]? = some (.cells cur.toArray 44 (0, 0))) (hsz : cur.length = cap * 2) (ht : cur.take (xs.length * 2) = xs.flatMap Row.enc)
    (hv : w.heap[vb]? = some (.cells x.enc.toArray 44 (0, 0))) :
    Calls Tryz.prog 180 #[.slice (some ⟨g, 0, none⟩) xs.length cap, .int .i64 i, .slice (some ⟨vb, 0, none⟩) 1 1] w fun e w' =>
      e = .returned (.slice (some ⟨g, 0, none⟩) (xs.length + 1) cap) ∧ w' = w.drew.setRow g (over (over cur ((i + 1) * 2) ((xs.drop i).flatMap Row.enc)) (i * 2) x.enc).toArray := by
  unfold maxLen at hc
  have hov : ∀ lb cb, (callFunc 229 #[.slice (some ⟨vb, 0, none⟩) 1 1, .slice (some ⟨g, (i + 1) * 2, none⟩) lb cb]).run Tryz.prog w = .ok (.value (.bool false)) w := fun lb cb => by
    rw [run_callFunc_extern Tryz.func229 (by kernel_rfl) (by kernel_rfl) (by kernel_rfl) (e := Extern.SlicesOverlaps.overlaps #[56, 56] #[4]) (by kernel_rfl),
      Lib.run_overlaps_apart w 56 4 44 under_rows 2 Tryz.sizeOf44 ⟨vb, 0, none⟩ ⟨g, (i + 1) * 2, none⟩ 1 1 lb cb hvb 44 44 2 cur.length (by simp [World.shape?, hv, Row.enc]) (by simp [World.shape?, hg]) (by omega) (by simp [World.frozen?, hv]) (by simp [World.frozen?, hv])]
    rfl
  have hn1 : Hid (((xs.drop i).flatMap Row.enc).length = Nat.min (xs.length + 1 - i) (xs.length - i) * 2) := by
    show _ = min _ _ * 2
    rw [flat_length row_len, List.length_drop, Nat.min_def, if_neg (by omega)]
  have hcell : ∀ j v, ((xs.drop i).flatMap Row.enc)[j]? = some v → cur[i * 2 + j]? = some v := fun j v hj => by
    rw [← flat_drop row_len, ← ht, List.getElem?_drop, List.getElem?_take] at hj
    split at hj
    · exact hj
    · cases hj
  have hs1 : Hid (∀ j v, ((xs.drop i).flatMap Row.enc)[j]? = some v → w.drew.cell? ((⟨g, i * 2, none⟩ : Addr).add j) = some v) := fun j v hj => by
    rw [Addr.add_lit]
    rw [World.cell?_drew]
    simp [World.cell?, hg, hcell j v hj]
  have hl1 : ((xs.drop i).flatMap Row.enc).length = (xs.length - i) * 2 := by rw [flat_length row_len, List.length_drop]
  have hf1 : Hid ((i + 1) * 2 + ((xs.drop i).flatMap Row.enc).length ≤ cur.length) := by
    show _ ≤ _
    rw [hl1]; omega
  have ho1 : Hid (∀ v ∈ (xs.drop i).flatMap Row.enc, v.oneCell' = true) := fun v hv => by
    obtain ⟨y, _, hy⟩ := List.mem_flatMap.1 hv
    exact row_one y v hy
  have hf2 : Hid (i * 2 + x.enc.length ≤ (over cur ((i + 1) * 2) ((xs.drop i).flatMap Row.enc)).length) := by
    show _ ≤ _
    rw [over_length hf1.out, row_len]; omega
  have hn2 : ∀ n, 1 ≤ n → x.enc.length = Nat.min 1 n * 2 := fun n hn => by show _ = min _ _ * 2; rw [row_len, Nat.min_def, if_pos hn]
  have hs2 : ∀ W : World, W.heap[vb]? = some (.cells x.enc.toArray 44 (0, 0)) → ∀ j v, x.enc[j]? = some v → W.cell? ((⟨vb, 0, none⟩ : Addr).add j) = some v := fun W hW j v hj => by
    rw [Addr.add_lit]
    simp [World.cell?, hW, hj]
  have hw1 : IntKind.i64.wrap ((i : Int) + 1) = (i : Int) + 1 := by rw [IntKind.wrap_i64]; omega
  have hb1 : (0 : Int) ≤ (i : Int) + 1 := by omega
  have htn : ((i : Int) + 1).toNat = i + 1 := by omega
  have hb2 : ¬ (cap = i + 1) := by omega
  have hb3 : (i : Int) ≤ (xs.length : Int) := by omega
  have hb4 : ¬ (cap = i) := by omega
  have hb5 : i ≤ xs.length + 1 := by omega
  have hb7 : (i : Int) ≤ (xs.length : Int) + 1 := by omega
  have hb6 : i ≤ xs.length := by omega
  go_enter Tryz.func180, Tryz.ntmps180
  go_wp2_with (simp only [hov])
  go_region_law (refine step_copy_k rfl (.tmp 73) (.tmp 76) 56 56 rfl 44 2 under_rows info_size g ((i + 1) * 2) (xs.length - i) (cap - (i + 1)) ⟨g, i * 2, none⟩ (xs.length + 1 - i) (cap - i) (by simp [Act.eval, Act.put]) (by simp [Act.eval, Act.put]) cur 44 hg ((xs.drop i).flatMap Row.enc) hn1.out hs1.out hf1.out ho1.out ?_; intro W1 hW1)
  have hg1 : W1.heap[g]? = some (.cells (over cur ((i + 1) * 2) ((xs.drop i).flatMap Row.enc)).toArray 44 (0, 0)) := by
    rw [hW1.out]; exact setRow_heap _ g _ _ _ _ hg
  have hv1 : W1.heap[vb]? = some (.cells x.enc.toArray 44 (0, 0)) := by
    rw [hW1.out, setRow_other _ _ _ _ hvb]; exact hv
  go_wp2_with (refine wpList_copy_k rfl (.tmp 80) (.tmp 81) 56 56 rfl 44 2 under_rows info_size g (i * 2) _ _ ⟨vb, 0, none⟩ 1 1 rfl rfl _ 44 hg1 x.enc (hn2 _ (by omega)) (hs2 _ hv1) hf2.out (fun v hv => row_one x v hv) ?_; intro W2 hW2)
  go_ret
  exact ⟨rfl, by rw [hW2.out, hW1.out, setRow_setRow]⟩

theorem size_drew (w : World) : w.drew.heap.size = w.heap.size := rfl

set_option maxHeartbeats 1000000 in
set_option maxRecDepth 100000 in
/-- slices.Insert, one element, ahead of the end, there is no room. -/
theorem ins_grow (g i vb : Nat) (cur : List Value) (xs : List Row) (x : Row) (w : World) (hi : i < xs.length) (hbig : xs.length ≤ 1000000000)
    (hg : w.heap[g]? = some (.cells cur.toArray 44 (0, 0))) (ht : cur.take (xs.length * 2) = xs.flatMap Row.enc)
    (hv : w.heap[vb]? = some (.cells x.enc.toArray 44 (0, 0))) :
    Calls Tryz.prog 180 #[.slice (some ⟨g, 0, none⟩) xs.length xs.length, .int .i64 i, .slice (some ⟨vb, 0, none⟩) 1 1] w fun e w' =>
      ∃ (cap : Nat) (cur' : List Value), e = .returned (.slice (some ⟨w.heap.size, 0, none⟩) (xs.length + 1) cap) ∧ xs.length + 1 ≤ cap ∧ cap ≤ maxLen ∧ cur'.length = cap * 2 ∧ cur'.take ((xs.length + 1) * 2) = (insL xs i x).flatMap Row.enc ∧
        w'.heap[w.heap.size]? = some (.cells cur'.toArray 44 (0, 0)) ∧ Below w.heap.size w w' := by
  obtain ⟨i0, hi0, hz0, hzs, hzb⟩ := info_parts (show (Tryz.prog.info? 44).map (fun i => (i.zero, i.size, i.bytes)) = some (some (.agg #[.string ⟨#[]⟩, .int .u32 0]), 2, 24) from info_rowi)
  have hgs : g < w.heap.size := (Array.getElem?_eq_some_iff.1 hg).1
  have hvs : vb < w.heap.size := (Array.getElem?_eq_some_iff.1 hv).1
  have hle : xs.length * 2 ≤ cur.length := by
    have := congrArg List.length ht
    rw [flat_length row_len, List.length_take] at this
    omega
  have hcell : ∀ k j v, ((xs.drop k).flatMap Row.enc)[j]? = some v → cur[k * 2 + j]? = some v := fun k j v hj => by
    rw [← flat_drop row_len, ← ht, List.getElem?_drop, List.getElem?_take] at hj
    split at hj
    · exact hj
    · cases hj
  have hold : (Builtin.firstCells i0.size i (.slice (some ⟨g, 0, none⟩) i xs.length)).run Tryz.prog w.drew = .ok ((xs.take i).flatMap Row.enc).toArray w.drew := by
    rw [hzs]
    refine run_firstCells_some w.drew 2 i ⟨g, 0, none⟩ i xs.length _ (by rw [flat_length row_len, List.length_take, Nat.min_eq_left (by omega)]) (fun j v hj => ?_)
    rw [Addr.add_lit, World.cell?_drew]
    rw [← flat_take row_len, List.getElem?_take] at hj
    split at hj
    · have := hcell 0 j v (by simpa using hj)
      rw [Nat.zero_mul, Nat.zero_add] at this
      simp [World.cell?, hg, this]
    · cases hj
  obtain ⟨G, hG⟩ : ∃ G, G = grownCap w (xs.length + 1) xs.length 44 := ⟨_, rfl⟩
  obtain ⟨ROW, hROW⟩ : ∃ ROW : List Value, ROW = (xs.take i).flatMap Row.enc ++ ((Builtin.zeroCells (Value.agg #[.string ⟨#[]⟩, .int .u32 0]).cells (xs.length + 1 - i)).toList ++ (Builtin.zeroCells (Value.agg #[.string ⟨#[]⟩, .int .u32 0]).cells (G - (xs.length + 1))).toList) := ⟨_, rfl⟩
  have hGn : xs.length + 1 ≤ G := by rw [hG]; exact grownCap_ge w _ _ _
  have hGm : G ≤ maxLen := by rw [hG]; exact grownCap_le_maxLen w _ _ _ (by unfold maxLen; omega)
  have hRl : ROW.length = G * 2 := by
    have z1 : ∀ n, (Builtin.zeroCells (Value.agg #[.string ⟨#[]⟩, .int .u32 0]).cells n).toList.length = n * 2 := fun n => by rw [Array.length_toList, size_zeroCells]; rfl
    rw [hROW, List.length_append, List.length_append, flat_length row_len, List.length_take, z1, z1, Nat.min_eq_left (by omega)]
    omega
  have hRt : ROW.take (i * 2) = (xs.take i).flatMap Row.enc := by
    rw [hROW, List.take_left' (by rw [flat_length row_len, List.length_take, Nat.min_eq_left (by omega)])]
  have hRA : ROW.toArray = ((xs.take i).flatMap Row.enc).toArray ++ Builtin.zeroCells (Value.agg #[.string ⟨#[]⟩, .int .u32 0]).cells (xs.length + 1 - i) ++ Builtin.zeroCells (Value.agg #[.string ⟨#[]⟩, .int .u32 0]).cells (G - (xs.length + 1)) := by
    rw [hROW]; apply Array.ext'; simp
  have hkk : (xs.length : Int) + 1 - (i : Int) = ((xs.length + 1 - i : Nat) : Int) := by omega
  have hik : i + (xs.length + 1 - i) = xs.length + 1 := by omega
  have hrz : ∀ ty, (Builtin.append_ #[56, 3] ty #[.slice (some ⟨g, 0, none⟩) i xs.length, .int .i64 ((xs.length : Int) + 1 - (i : Int))]).run Tryz.prog w = .ok (.slice (some ⟨w.heap.size, 0, none⟩) (xs.length + 1) G) (w.drew.alloc (.cells ROW.toArray 44)) := fun ty => by
    have h := Lib.run_append_grow_zeros w 56 3 ty 44 i0 _ .i64 .i64 under_rows under_int hi0 hz0 (some ⟨g, 0, none⟩) i xs.length _ hold (xs.length + 1 - i) (by omega) (by omega) (by omega) (by omega) (by rw [hzb]; omega) (by rw [hzb, hik]; exact growslice_fits (by omega) (by omega))
    rw [hik, ← hG] at h
    rw [hkk, h, hRA]
  generalize hW0 : w.drew.alloc (.cells ROW.toArray 44) = W0 at hrz
  have hn0 : W0.heap[w.heap.size]? = some (.cells ROW.toArray 44 (0, 0)) := by rw [← hW0]; show (w.heap.push _)[w.heap.size]? = _; rw [Array.getElem?_push_size]
  have hb0 : Below w.heap.size w W0 := by rw [← hW0]; exact (Below.refl _ w).drew.alloc (Nat.le_refl _) _
  have hg0 : W0.heap[g]? = some (.cells cur.toArray 44 (0, 0)) := (hb0.block g hgs).trans hg
  have hv0 : W0.heap[vb]? = some (.cells x.enc.toArray 44 (0, 0)) := (hb0.block vb hvs).trans hv
  have HR := Lib.hid hRl
  have HT := Lib.hid hRt
  clear hold hG hRA hROW hRl hRt hkk hik hi0 hz0 hzs hzb hW0
  have hn2 : ∀ n, 1 ≤ n → x.enc.length = Nat.min 1 n * 2 := fun n hn => by show _ = min _ _ * 2; rw [row_len, Nat.min_def, if_pos hn]
  have hs2 : ∀ W : World, W.heap[vb]? = some (.cells x.enc.toArray 44 (0, 0)) → ∀ j v, x.enc[j]? = some v → W.cell? ((⟨vb, 0, none⟩ : Addr).add j) = some v := fun W hW j v hj => by
    rw [Addr.add_lit]
    simp [World.cell?, hW, hj]
  have hf2 : Hid (i * 2 + x.enc.length ≤ ROW.length) := by
    show _ ≤ _
    rw [HR.out, row_len]; omega
  have hn1 : Hid (((xs.drop i).flatMap Row.enc).length = Nat.min (xs.length - i) (xs.length - i) * 2) := by
    show _ = min _ _ * 2
    rw [flat_length row_len, List.length_drop, Nat.min_self]
  have hs1 : ∀ W : World, Hid (W.heap[g]? = some (.cells cur.toArray 44 (0, 0))) → ∀ j v, ((xs.drop i).flatMap Row.enc)[j]? = some v → W.cell? ((⟨g, i * 2, none⟩ : Addr).add j) = some v := fun W hW j v hj => by
    rw [Addr.add_lit]
    simp [World.cell?, hW.out, hcell i j v hj]
  have hl1 : ((xs.drop i).flatMap Row.enc).length = (xs.length - i) * 2 := by rw [flat_length row_len, List.length_drop]
  have hf1 : Hid ((i + 1) * 2 + ((xs.drop i).flatMap Row.enc).length ≤ (over ROW (i * 2) x.enc).length) := by
    show _ ≤ _
    rw [over_length hf2.out, hl1, HR.out]; omega
  have ho1 : Hid (∀ v ∈ (xs.drop i).flatMap Row.enc, v.oneCell' = true) := fun v hv => by
    obtain ⟨y, _, hy⟩ := List.mem_flatMap.1 hv
    exact row_one y v hy
  have hw1 : IntKind.i64.wrap ((i : Int) + 1) = (i : Int) + 1 := by rw [IntKind.wrap_i64]; omega
  have hb1 : (0 : Int) ≤ (i : Int) + 1 := by omega
  have htn : ((i : Int) + 1).toNat = i + 1 := by omega
  unfold maxLen at hGm
  have hb2 : ¬ (G = i + 1) := by omega
  have hb3 : (i : Int) ≤ (xs.length : Int) := by omega
  have hb4 : ¬ (G = i) := by omega
  have hb8 : ¬ (xs.length = i) := by omega
  have hb7 : (i : Int) ≤ (xs.length : Int) + 1 := by omega
  have hb6 : i ≤ xs.length := by omega
  have hb5 : i ≤ xs.length + 1 := by omega
  clear hcell hg hv
  go_enter Tryz.func180, Tryz.ntmps180
  go_wp2_with (first
    | (at_builtin; refine Lib.wpList_append_run _ rfl _ _ _ _ rfl _ _ rfl rfl _ _ (hrz _) ?_)
    | (refine wpList_copy_k rfl (.tmp 43) (.tmp 44) 56 56 rfl 44 2 under_rows info_size w.heap.size (i * 2) _ _ ⟨vb, 0, none⟩ 1 1 rfl rfl _ 44 hn0 x.enc (hn2 _ (by omega)) (hs2 _ hv0) hf2.out (fun v hv => row_one x v hv) ?_; intro W1 hW1))
  have hn1' : W1.heap[w.heap.size]? = some (.cells (over ROW (i * 2) x.enc).toArray 44 (0, 0)) := by rw [hW1.out]; exact setRow_heap _ _ _ _ _ _ hn0
  have hg1 : Hid (W1.heap[g]? = some (.cells cur.toArray 44 (0, 0))) := by
    show _ = _
    rw [hW1.out, setRow_other _ _ _ _ (by omega)]; exact hg0
  have hcl := hs1 W1.drew hg1
  go_region_law (refine step_copy_k rfl (.tmp 50) (.tmp 53) 56 56 rfl 44 2 under_rows info_size w.heap.size ((i + 1) * 2) (xs.length - i) (G - (i + 1)) ⟨g, i * 2, none⟩ (xs.length - i) (xs.length - i) (by simp [Act.eval, Act.put]) (by simp [Act.eval, Act.put]) _ 44 hn1' ((xs.drop i).flatMap Row.enc) hn1.out hcl hf1.out ho1.out ?_; intro W2 hW2)
  go_wp2
  go_ret
  refine ⟨G, over (over ROW (i * 2) x.enc) ((i + 1) * 2) ((xs.drop i).flatMap Row.enc), rfl, hGn, hGm, ?_, ?_, ?_, ?_⟩
  rotate_left 2
  · rw [hW2.out]; exact setRow_heap _ _ _ _ _ _ hn1'
  · have b1 : Below w.heap.size w W1 := by rw [hW1.out]; exact below_setRow hb0 (Nat.le_refl _) _
    rw [hW2.out]; exact below_setRow b1.drew (Nat.le_refl _) _
  · rw [over_length hf1.out, over_length hf2.out, HR.out]
  · have := over_ins_a ROW _ x.enc ((xs.drop i).flatMap Row.enc) (i * 2) ((xs.length + 1) * 2) HT.out (by rw [HR.out]; omega) (by rw [hl1, row_len]; omega)
    rw [row_len, show i * 2 + 2 = (i + 1) * 2 by omega] at this
    rw [this]
    simp [insL]

theorem setRow_below {w : World} {g : Nat} {cs : Array Value} (k : Nat) (h : k ≠ g) : (w.setRow g cs).heap[k]? = w.heap[k]? := setRow_other w g k cs h

set_option maxHeartbeats 400000 in
theorem insert_calls (base i vb : Nat) (v : Value) (xs : List Row) (x : Row) (w : World) (hown : Own Row.enc 2 44 base w v xs) (hi : i ≤ xs.length) (hbig : xs.length ≤ 1000000000)
    (hv : w.heap[vb]? = some (.cells x.enc.toArray 44 (0, 0))) (hvb : v.ownBlock ≠ some vb) (hbase : base ≤ w.heap.size) :
    Calls Tryz.prog 180 #[v, .int .i64 i, .slice (some ⟨vb, 0, none⟩) 1 1] w fun e w' =>
      ∃ v', e = .returned v' ∧ Own Row.enc 2 44 base w' v' (insL xs i x) ∧ w.grownBy w' v.ownBlock ∧ (v'.ownBlock = v.ownBlock ∨ ∃ g, v'.ownBlock = some g ∧ w.heap.size ≤ g) := by
  by_cases he : i = xs.length
  · subst he
    obtain ⟨i0, hi0, hz0, hzs, hzb⟩ := info_parts info_rowi
    obtain ⟨A, c, rfl, hlc, hc⟩ := hown.slice
    have hs2 : ∀ j v, x.enc[j]? = some v → w.cell? ((⟨vb, 0, none⟩ : Addr).add j) = some v := fun j v hj => by
      rw [Addr.add_lit]
      simp [World.cell?, hv, hj]
    have hins : insL xs xs.length x = xs ++ [x] := by simp [insL]
    rw [hins]
    have hcc : c = xs.length ∨ ¬ c = xs.length := Decidable.em _
    rcases hcc with rfl | hcc
    all_goals
      go_enter Tryz.func180, Tryz.ntmps180
      go_wp2_with (at_builtin; refine wpList_append_own_at w rfl _ _ 56 rfl base 44 i0 _ 2 24 under_rows hi0 hz0 hzs hzb rfl (by decide) (.slice A xs.length _) xs.length _ rfl hown ⟨vb, 0, none⟩ 1 1 x.enc rfl rfl hs2 (row_one x) (by unfold maxLen; omega) (by omega) hbase ?_; intro v' w' hown' hgr _ hat)
      all_goals
        go_ret
        refine ⟨_, rfl, ?_, hgr, ?_⟩
        · unfold Own
          rw [List.flatMap_append, List.flatMap_singleton, List.length_append, List.length_singleton]
          exact hown'
        · rcases hat with hat | hat
          · exact .inl hat
          · exact .inr ⟨_, hat, Nat.le_refl _⟩
  · obtain ⟨g, cap, cur, rfl, hbg, hg, hlc, hcm, hsz, ht⟩ := hown.some_block (by omega)
    have hne : vb ≠ g := fun e => hvb (by rw [e]; rfl)
    by_cases hroom : xs.length < cap
    · refine (ins_room g cap i vb cur.toList xs x w (by omega) hroom hcm hne hg (by simpa using hsz) ht hv).mono ?_
      rintro e w' ⟨rfl, rfl⟩
      have hl1 : ((xs.drop i).flatMap Row.enc).length = (xs.length - i) * 2 := by rw [flat_length row_len, List.length_drop]
      have hl2 : cur.toList.length = cap * 2 := by simpa using hsz
      have hf1 : (i + 1) * 2 + ((xs.drop i).flatMap Row.enc).length ≤ cur.toList.length := by rw [hl1, hl2]; omega
      refine ⟨_, rfl, ?_, ?_, .inl rfl⟩
      · have hlen := insL_length xs i x (by omega)
        rw [← hlen]
        refine Own.turned (old := cur) hg hbg (by omega) hcm ?_ row_len ?_
        · show (List.toArray _).size = _
          rw [List.size_toArray, over_length (by rw [over_length hf1, row_len]; omega), over_length hf1, hl2]
        · have := over_ins_b cur.toList ((xs.take i).flatMap Row.enc) x.enc ((xs.drop i).flatMap Row.enc) (i * 2) ((xs.length + 1) * 2) (by
            rw [← flat_take row_len, ← ht, List.take_take, Nat.min_eq_left (by omega)]) (by rw [hl2, row_len]; omega) (by rw [hl1, row_len]; omega)
          rw [row_len, show i * 2 + 2 = (i + 1) * 2 by omega] at this
          show List.take _ (List.toArray _).toList = _
          rw [hlen, List.toList_toArray, this]
          simp [insL]
      · have h1 := grownBy_setRow w.drew g (over (over cur.toList ((i + 1) * 2) ((xs.drop i).flatMap Row.enc)) (i * 2) x.enc).toArray
        exact ⟨h1.os, h1.tape, h1.output, h1.size, h1.block⟩
    · obtain rfl : cap = xs.length := by omega
      refine (ins_grow g i vb cur.toList xs x w (by omega) hbig hg ht hv).mono ?_
      rintro e w' ⟨cap', cur', rfl, h1, h2, h3, h4, h5, h6⟩
      refine ⟨_, rfl, ?_, ?_, .inr ⟨_, rfl, Nat.le_refl _⟩⟩
      · have hlen := insL_length xs i x (by omega)
        rw [← hlen] at h4 ⊢
        exact ⟨flat_length row_len _, .inr ⟨w.heap.size, cap', cur'.toArray, rfl, hbase, h5, by omega, h2, by simpa using h3, h4⟩⟩
      · exact ⟨h6.os, h6.tape, h6.output, h6.size, fun k hk _ => h6.block k hk⟩

end Go.Proofs.YtanjgeacmpmjhaaGreatDoor
